/- Texts of this proof, joined. -/
import Derived.Test.YtlmcofjcpadmiaaPaz
import Derived.Test.YtlmcofjcpadmiaaPba
import Derived.Test.YtlmcofjcpadmiaaPax
set_option linter.unusedVariables false
set_option linter.unusedSimpArgs false

/- expressions that are written: their words -/
namespace Go.Proofs.Ytlmcofjcpadmiaa
open Go Go.RowKit Go.V

theorem qfr (n:N):ptB n = if n.kind = 31 then n.text ++ ([32,61,32] ++ (if 0 < n.kids.length then ptE (n.kids.getD 0 N0) else [])) else sgT n:=by
 obtain ⟨k,p,m,t,ks⟩:=n
 have ha:(((ks.map pba).zip ks).getD 0 q3).1.1 = if 0 < ks.length then ptE (ks.getD 0 N0) else []:=by
  by_cases h:0 < ks.length
  ·rw [if_pos h,qon ks h]
  ·rw [if_neg h,qej,List.getD_eq_getElem?_getD,List.getElem?_eq_none (by simpa using h)];rfl
 simp only [ptB,pba,qle,ha,N.kind,N.text,N.kids]
 rfl
theorem qju (n:N):ptL n = ptP (n.kids.getD 0 N0) ++ ([32,45,62,32] ++ (if 1 < n.kids.length then ptE (n.kids.getD 1 N0) else [])):=by
 obtain ⟨k,p,m,t,ks⟩:=n
 have ha:(((ks.map pba).zip ks).getD 1 q3).1.1 = if 1 < ks.length then ptE (ks.getD 1 N0) else []:=by
  by_cases h:1 < ks.length
  ·rw [if_pos h,qon ks h]
  ·rw [if_neg h,qej,List.getD_eq_getElem?_getD,List.getElem?_eq_none (by simpa using h)];rfl
 simp only [ptL,pba,qle,ha,N.kids]
 rfl
def tkE (n:N):List T:=(tokW (ptE n)).getD []
def tkB (n:N):List T:=(tokW (ptB n)).getD []
def tkL (n:N):List T:=(tokW (ptL n)).getD []
def vaT (n:N):T:=⟨1,0,0,n.text⟩
def wLet:List UInt8:=[108,101,116]
def wIn:List UInt8:=[105,110]
def q1n:List UInt8:=[99,97,115,101]
def wOf:List UInt8:=[111,102]
def wIf:List UInt8:=[105,102]
def q4n:List UInt8:=[116,104,101,110]
def q6m:List UInt8:=[101,108,115,101]
def semK (l:List (List T)):List T:=mkT [123] :: (qcm (mkT [59]) l ++ [mkT [125]])
def opK (n:N):List T:=cloK (qn n || decide (n.kind = 24)) (tkE n)
def agK (n:N):List T:=cloK (qn n) (tkE n)
def ekN (n:N) (i:Nat):N:=n.kids.getD i N0
def eitN (n:N):List N:=n.kids.take (n.kids.length - 1)
def tkE' (n:N):List T :=
 if n.kind = 23 then [intT n.num]
 else if n.kind = 24 then opK (ekN n 0) ++ agK (ekN n 1)
 else if n.kind = 25 then mkT [92] :: vaT n :: mkT arW :: tkE (ekN n 0)
 else if n.kind = 26 then rsT wLet :: (semK ((eitN n).map tkB) ++ rsT wIn :: tkE (ekN n (n.kids.length - 1)))
 else if n.kind = 27 then rsT q1n :: (tkE (ekN n 0) ++ rsT wOf :: semK ((n.kids.drop 1).map tkL))
 else if n.kind = 28 then rsT wIf :: (tkE (ekN n 0) ++ rsT q4n :: (tkE (ekN n 1) ++ rsT q6m :: tkE (ekN n 2)))
 else [⟨if n.kind = 21 then 1 else 2,0,0,n.text⟩]
def tkB' (n:N):List T:=if n.kind = 31 then vaT n :: mkT [61] :: tkE (ekN n 0) else vaT n :: mkT [58,58] :: tkQ (ekN n 0)
def tkL' (n:N):List T:=tkP (ekN n 0) ++ mkT arW :: tkE (ekN n 1)
inductive ExQ (n:N):Prop
 | var (h:n.kind = 21) (h1:varW n.text = true) (h2:n.kids = []) (h3:n.num = 0)
 | con (h:n.kind = 22) (h1:conW n.text = true) (h2:n.kids = []) (h3:n.num = 0)
 | int (h:n.kind = 23) (h1:n.text = []) (h2:n.kids = []) (h3:0≤n.num)
 | app (h:n.kind = 24) (h1:n.text = []) (h2:n.kids = [ekN n 0,ekN n 1]) (h3:n.num = 0) (h4:exW (ekN n 0) = true) (h5:exW (ekN n 1) = true)
 | lam (h:n.kind = 25) (h1:varW n.text = true) (h2:n.kids = [ekN n 0]) (h3:n.num = 0) (h4:exW (ekN n 0) = true)
 | let_ (h:n.kind = 26) (h1:n.text = []) (h2:n.kids = eitN n ++ [ekN n (n.kids.length - 1)]) (h3:n.num = 0) (h4:∀ x∈eitN n,biW x = true∨sgW x = true) (h5:eitN n≠[]) (h6:exW (ekN n (n.kids.length - 1)) = true)
 | case (h:n.kind = 27) (h1:n.text = []) (h2:n.kids = ekN n 0 :: n.kids.drop 1) (h3:n.num = 0) (h4:exW (ekN n 0) = true) (h5:∀ x∈n.kids.drop 1,alW x = true) (h6:n.kids.drop 1≠[])
 | if_ (h:n.kind = 28) (h1:n.text = []) (h2:n.kids = [ekN n 0,ekN n 1,ekN n 2]) (h3:n.num = 0) (h4:exW (ekN n 0) = true) (h5:exW (ekN n 1) = true) (h6:exW (ekN n 2) = true)
theorem q5v {l:List N} (h:l.length = 1):l = [l.getD 0 N0]:=by
 match l,h with
 | [a],_=>rfl
theorem qsc {l:List N} (h:l.length = 2):l = [l.getD 0 N0,l.getD 1 N0]:=by
 match l,h with
 | [a,b],_=>rfl
theorem qbbo {l:List N} (h:l.length = 3):l = [l.getD 0 N0,l.getD 1 N0,l.getD 2 N0]:=by
 match l,h with
 | [a,b,c],_=>rfl
theorem qdw {n:N} (h:exW n = true):ExQ n:=by
 rw [q1i] at h
 have h0:decide ((n.kids.length:Int) = 0) = true->n.kids = []:=fun e=>List.length_eq_zero_iff.1 (by have:=of_decide_eq_true e;omega)
 have hi:((n.kids.length:Int) - 1).toNat = n.kids.length - 1:=by omega
 by_cases h1:n.kind = 21
 ·rw [if_pos h1] at h
  simp only [Bool.and_eq_true] at h
  exact .var h1 h.1.2 (h0 h.2) (of_decide_eq_true h.1.1)
 rw [if_neg h1] at h
 by_cases h2:n.kind = 22
 ·rw [if_pos h2] at h
  simp only [Bool.and_eq_true] at h
  exact .con h2 h.1.2 (h0 h.2) (of_decide_eq_true h.1.1)
 rw [if_neg h2] at h
 by_cases h3:n.kind = 23
 ·rw [if_pos h3] at h
  simp only [Bool.and_eq_true] at h
  exact .int h3 (of_decide_eq_true h.1.1) (h0 h.2) (of_decide_eq_true h.1.2)
 rw [if_neg h3] at h
 by_cases h4:n.kind = 24
 ·rw [if_pos h4] at h
  simp only [Bool.and_eq_true,decide_eq_true_eq,List.all_eq_true] at h
  obtain ⟨⟨⟨a,b⟩,c⟩,d⟩:=h
  have hl:n.kids.length = 2:=by omega
  exact .app h4 a (qsc hl) b (d _ (qe (by omega))) (d _ (qe (by omega)))
 rw [if_neg h4] at h
 by_cases h5:n.kind = 25
 ·rw [if_pos h5] at h
  simp only [Bool.and_eq_true,decide_eq_true_eq] at h
  obtain ⟨⟨⟨a,b⟩,c⟩,d⟩:=h
  exact .lam h5 b (q5v (by omega)) a d
 rw [if_neg h5] at h
 by_cases h6:n.kind = 26
 ·rw [if_pos h6] at h
  simp only [Bool.and_eq_true,decide_eq_true_eq,List.all_eq_true,Bool.or_eq_true,hi] at h
  obtain ⟨⟨⟨⟨a,b⟩,c⟩,d⟩,e⟩:=h
  have hl:n.kids.length - 1 < n.kids.length:=by omega
  refine .let_ h6 a ?_ b d (fun e=>?_) e
  ·rw [eitN,ekN,← q2u hl,List.take_of_length_le (by omega)]
  ·have:=congrArg List.length e
   rw [eitN,List.length_take,List.length_nil] at this;omega
 rw [if_neg h6] at h
 by_cases h7:n.kind = 27
 ·rw [if_pos h7] at h
  simp only [Bool.and_eq_true,decide_eq_true_eq,List.all_eq_true] at h
  obtain ⟨⟨⟨⟨a,b⟩,c⟩,d⟩,e⟩:=h
  refine .case h7 a ?_ b d e (fun e=>?_)
  ·have:=qo2 (l:=n.kids) (i:=0) (by omega)
   rwa [List.drop_zero] at this
  ·have:=congrArg List.length e
   rw [List.length_drop,List.length_nil] at this;omega
 rw [if_neg h7] at h
 by_cases h8:n.kind = 28
 ·rw [if_pos h8] at h
  simp only [Bool.and_eq_true,decide_eq_true_eq,List.all_eq_true] at h
  obtain ⟨⟨⟨a,b⟩,c⟩,d⟩:=h
  have hl:n.kids.length = 3:=by omega
  exact .if_ h8 a (qbbo hl) b (d _ (qe (by omega))) (d _ (qe (by omega))) (d _ (qe (by omega)))
 ·rw [if_neg h8] at h;cases h
theorem qds {n:N} (h:sgW n = true):n.kind = 32∧n.num = 0∧varW n.text = true∧n.kids = [ekN n 0]∧quW (ekN n 0) = true:=by
 simp only [sgW,Bool.and_eq_true,decide_eq_true_eq] at h
 obtain ⟨⟨⟨⟨a,b⟩,c⟩,d⟩,e⟩:=h
 exact ⟨a,b,c,q5v (by omega),e⟩
theorem qdx {n:N} (h:biW n = true):n.kind = 31∧n.num = 0∧varW n.text = true∧n.kids = [ekN n 0]∧exW (ekN n 0) = true:=by
 rw [q08] at h
 simp only [Bool.and_eq_true,decide_eq_true_eq] at h
 obtain ⟨⟨⟨⟨a,b⟩,c⟩,d⟩,e⟩:=h
 exact ⟨a,b,c,q5v (by omega),e⟩
theorem qef {n:N} (h:alW n = true):n.kind = 15∧n.text = []∧n.num = 0∧n.kids = [ekN n 0,ekN n 1]∧paW (ekN n 0) = true∧exW (ekN n 1) = true:=by
 rw [q04] at h
 simp only [Bool.and_eq_true,decide_eq_true_eq] at h
 obtain ⟨⟨⟨⟨⟨a,b⟩,c⟩,d⟩,e⟩,f⟩:=h
 exact ⟨a,b,c,qsc (by omega),e,f⟩
theorem qbg1 {n:N} (h:sgW n = true):Wd (ptB n) (tkB' n):=fun r hr=>by
 obtain ⟨h1,_,h3,h4,h5⟩:=qds h
 rw [qfr,tkB',if_neg (by omega),if_neg (by omega),sgT]
 simp only [List.append_assoc,List.cons_append,List.nil_append]
 rw [qg5 h3 (qce _),qbf,qbbp,qbf]
 show ((tokW (quT (ekN n 0) ++ r)).map _).map _ = _
 rw [qbg0 h5 r hr]
 cases tokW r<;>simp [vaT]
theorem qbep (n:N):ptB n≠[]:=by
 rw [qfr]
 split
 ·simp
 ·rw [sgT];simp
theorem qbba (n:N):ptL n≠[]:=by rw [qju];simp
theorem q4y {f:N->List UInt8} {s:List UInt8} (hf:∀ x,f x≠[]):∀ (l:List N),l≠[]->Lib.join (l.map f) s≠[]
 | [],h=>absurd rfl h
 | [x],_=>by rw [List.map_singleton,qgb];exact hf x
 | x :: y :: l, _ => by
   rw [List.map_cons,List.map_cons,qff]
   intro h
   exact hf x (List.append_eq_nil_iff.1 h).1
theorem qbaf (r:List UInt8):tokW (smW ++ r) = (tokW r).map (mkT [59] :: ·):=by
 show tokW (59 :: 32 :: r) = _
 rw [qbcj,qbf]
theorem qbah {f:N->List UInt8} {g:N->List T} (hf:∀ x,f x≠[]) {l:List N} (hl:l≠[]) (h:∀ x∈l,Wd (f x) (g x)) (r:List UInt8):tokW (brW (Lib.join (l.map f) smW) ++ r) = (tokW r).map (semK (l.map g) ++ ·):=by
 have hj:=qop qbaf (fun r=>qbfz _) l hl h
 rw [brW,if_neg (q4y hf l hl)]
 simp only [List.append_assoc,List.cons_append,List.nil_append]
 rw [q34,qbf,hj _ (qce _),qbf,q5z]
 cases tokW r<;>simp [semK]
theorem qzv {r:List UInt8}:tokW (108 :: 101 :: 116 :: 32 :: r) = (tokW (32 :: r)).map (rsT wLet :: ·):=qf4 (w:=wLet) (by decide) (by decide) (by decide) (by decide) rfl (qce _)
theorem q2l {r:List UInt8}:tokW (105 :: 110 :: 32 :: r) = (tokW (32 :: r)).map (rsT wIn :: ·):=qf4 (w:=wIn) (by decide) (by decide) (by decide) (by decide) rfl (qce _)
theorem qvj {r:List UInt8}:tokW (99 :: 97 :: 115 :: 101 :: 32 :: r) = (tokW (32 :: r)).map (rsT q1n :: ·):=qf4 (w:=q1n) (by decide) (by decide) (by decide) (by decide) rfl (qce _)
theorem q5j {r:List UInt8}:tokW (111 :: 102 :: 32 :: r) = (tokW (32 :: r)).map (rsT wOf :: ·):=qf4 (w:=wOf) (by decide) (by decide) (by decide) (by decide) rfl (qce _)
theorem q7i {r:List UInt8}:tokW (105 :: 102 :: 32 :: r) = (tokW (32 :: r)).map (rsT wIf :: ·):=qf4 (w:=wIf) (by decide) (by decide) (by decide) (by decide) rfl (qce _)
theorem qwc {r:List UInt8}:tokW (116 :: 104 :: 101 :: 110 :: 32 :: r) = (tokW (32 :: r)).map (rsT q4n :: ·):=qf4 (w:=q4n) (by decide) (by decide) (by decide) (by decide) rfl (qce _)
theorem qvk {r:List UInt8}:tokW (101 :: 108 :: 115 :: 101 :: 32 :: r) = (tokW (32 :: r)).map (rsT q6m :: ·):=qf4 (w:=q6m) (by decide) (by decide) (by decide) (by decide) rfl (qce _)
set_option maxHeartbeats 1000000 in
theorem wdE:∀ n,(enc n).wf->(exW n = true->Wd (ptE n) (tkE n)∧tkE n = tkE' n)∧((biW n = true∨sgW n = true)->Wd (ptB n) (tkB n)∧tkB n = tkB' n)∧(alW n = true->Wd (ptL n) (tkL n)∧tkL n = tkL' n):=N.ind fun n ih hwf=>by
 have hx:∀ x∈n.kids,exW x = true->Wd (ptE x) (tkE x):=fun x hx h=>((ih x hx (qx hwf hx)).1 h).1
 have hB:∀ x∈n.kids,biW x = true∨sgW x = true->Wd (ptB x) (tkB x):=fun x hx h=>((ih x hx (qx hwf hx)).2.1 h).1
 have hL:∀ x∈n.kids,alW x = true->Wd (ptL x) (tkL x):=fun x hx h=>((ih x hx (qx hwf hx)).2.2 h).1
 refine ⟨fun h=>?_,fun h=>?_,fun h=>?_⟩
 ·have hw:Wd (ptE n) (tkE' n):=by
   intro r hr
   rw [qni,tkE']
   rcases qdw h with ⟨h0,h1,h2,h3⟩ | ⟨h0,h1,h2,h3⟩ | ⟨h0,h1,h2,h3⟩ | ⟨h0,h1,h2,h3,h4,h5⟩ | ⟨h0,h1,h2,h3,h4⟩ | ⟨h0,h1,h2,h3,h4,h5,h6⟩ | ⟨h0,h1,h2,h3,h4,h5,h6⟩ | ⟨h0,h1,h2,h3,h4,h5,h6⟩
   ·simp only [h0,Int.reduceEq,if_false,if_true]
    rw [qg5 h1 hr];cases tokW r<;>rfl
   ·simp only [h0,Int.reduceEq,if_false,if_true]
    rw [qlb h1 hr];cases tokW r<;>rfl
   ·simp only [h0,Int.reduceEq,if_false,if_true]
    rw [qva h3 (q0v hwf) hr];cases tokW r<;>rfl
   ·have hl:n.kids.length = 2:=by rw [h2];rfl
    have m0:ekN n 0∈n.kids:=qe (by omega)
    have m1:ekN n 1∈n.kids:=qe (by omega)
    simp only [h0,Int.reduceEq,if_false,if_true,hl,show (0 < 2) = True by simp,show (1 < 2) = True by simp,List.append_assoc,List.cons_append]
    have w0:=qjf (hx _ m0 h4) (qn (ekN n 0) || decide ((ekN n 0).kind = 24))
    have w1:=qjf (hx _ m1 h5) (qn (ekN n 1))
    refine (w0 _ (qce _)).trans ?_
    rw [qbf]
    refine (congrArg _ (w1 r hr)).trans ?_
    cases tokW r<;>simp [opK,agK]
   ·have hl:n.kids.length = 1:=by rw [h2];rfl
    have m0:ekN n 0∈n.kids:=qe (by omega)
    simp only [h0,Int.reduceEq,if_false,if_true,hl,Nat.zero_lt_succ,List.append_assoc,List.cons_append,List.nil_append]
    rw [qbdk,qbf,qg5 h1 (qce _),qbf,qv7,qbf]
    refine (congrArg (fun o=>((Option.map _ o).map _).map _) (hx _ m0 h4 r hr)).trans ?_
    cases tokW r<;>simp [vaT,arW]
   ·have hl:0 < n.kids.length:=by rw [h2];simp
    have m1:ekN n (n.kids.length - 1)∈n.kids:=qe (by omega)
    have hm:∀ x∈eitN n,x∈n.kids:=fun x hx=>List.mem_of_mem_take hx
    simp only [h0,Int.reduceEq,if_false,if_true,hl,List.append_assoc,List.cons_append,List.nil_append]
    rw [qzv,qbf]
    refine (congrArg _ (qbah qbep h5 (fun x hx=>hB x (hm x hx) (h4 x hx)) _)).trans ?_
    rw [qbf,q2l,qbf]
    refine (congrArg (fun o=>((Option.map _ o).map _).map _) (hx _ m1 h6 r hr)).trans ?_
    cases tokW r<;>simp
   ·have hl:0 < n.kids.length:=by rw [h2];simp
    have m0:ekN n 0∈n.kids:=qe (by omega)
    have hm:∀ x∈n.kids.drop 1,x∈n.kids:=fun x hx=>List.mem_of_mem_drop hx
    simp only [h0,Int.reduceEq,if_false,if_true,hl,List.append_assoc,List.cons_append,List.nil_append]
    rw [qvj,qbf]
    refine (congrArg _ (hx _ m0 h4 _ (qce _))).trans ?_
    rw [qbf,q5j,qbf]
    refine (congrArg (fun o=>((Option.map _ o).map _).map _) (qbah qbba h6 (fun x hx=>hL x (hm x hx) (h5 x hx)) r)).trans ?_
    cases tokW r<;>simp
   ·have hl:n.kids.length = 3:=by rw [h2];rfl
    have m0:ekN n 0∈n.kids:=qe (by omega)
    have m1:ekN n 1∈n.kids:=qe (by omega)
    have m2:ekN n 2∈n.kids:=qe (by omega)
    have e0:(0 < 3) = True:=by simp
    have e1:(1 < 3) = True:=by simp
    have e2:(2 < 3) = True:=by simp
    simp only [h0,Int.reduceEq,if_false,if_true,hl,e0,e1,e2,List.append_assoc,List.cons_append,List.nil_append]
    rw [q7i,qbf]
    refine (congrArg _ (hx _ m0 h4 _ (qce _))).trans ?_
    rw [qbf,qwc,qbf]
    refine (congrArg (fun o=>((Option.map _ o).map _).map _) (hx _ m1 h5 _ (qce _))).trans ?_
    rw [qbf,qvk,qbf]
    refine (congrArg (fun o=>((((Option.map _ o).map _).map _).map _).map _) (hx _ m2 h6 r hr)).trans ?_
    cases tokW r<;>simp
  have he:tkE n = tkE' n:=by rw [tkE,hw.get];rfl
  exact ⟨by rw [he];exact hw,he⟩
 ·have hw:Wd (ptB n) (tkB' n):=by
   rcases h with h | h
   ·intro r hr
    obtain ⟨h1,_,h3,h4,h5⟩:=qdx h
    have hl:n.kids.length = 1:=by rw [h4];rfl
    have m0:ekN n 0∈n.kids:=qe (by omega)
    rw [qfr,tkB',if_pos h1,if_pos h1]
    simp only [hl,Nat.zero_lt_succ,if_true,List.append_assoc,List.cons_append,List.nil_append]
    rw [qg5 h3 (qce _),qbf,qbf9]
    refine (congrArg (fun o=>(Option.map _ o).map _) (hx _ m0 h5 r hr)).trans ?_
    cases tokW r<;>simp [vaT]
   ·exact qbg1 h
  have he:tkB n = tkB' n:=by rw [tkB,hw.get];rfl
  exact ⟨by rw [he];exact hw,he⟩
 ·have hw:Wd (ptL n) (tkL' n):=by
   intro r hr
   obtain ⟨_,_,_,h4,h5,h6⟩:=qef h
   have hl:n.kids.length = 2:=by rw [h4];rfl
   have m0:ekN n 0∈n.kids:=qe (by omega)
   have m1:ekN n 1∈n.kids:=qe (by omega)
   rw [qju,tkL']
   simp only [hl,show (1 < 2) = True by simp,if_true,List.append_assoc,List.cons_append,List.nil_append]
   refine ((wdP _ h5 (qx hwf m0)).1 _ (qce _)).trans ?_
   rw [qbf,qv7,qbf]
   refine (congrArg (fun o=>(Option.map _ o).map _) (hx _ m1 h6 r hr)).trans ?_
   cases tokW r<;>simp [arW]
  have he:tkL n = tkL' n:=by rw [tkL,hw.get];rfl
  exact ⟨by rw [he];exact hw,he⟩

theorem ne_ {a b:Int} (h:decide (a = b) = false:=by rfl):a≠b:=of_decide_eq_false h
/-! what is skipped -/
theorem q1x:∀ n,paW n = true->(enc n).wf->Bal0 (tkP n):=N.ind fun n ih ht hw=>by
 rw [(wdP n ht hw).2,tkP']
 rcases qdc ht with ⟨h,h1,h2,h3⟩ | ⟨h,h1,h2,h3⟩ | ⟨h,h1,h2,h3⟩ | ⟨h,h1,h2,h3⟩
 ·rw [if_neg (by omega),if_neg (by omega),h2]
  exact qdd (by rw [qew,if_pos h];exact ne_) (by rw [qew,if_pos h];exact ne_)
 ·rw [if_pos h]
  exact ⟨qe0 (by decide) (by decide),fun r=>by rw [List.singleton_append,qbe,if_neg (by decide),if_neg (by decide),if_neg (by decide),if_neg (by decide),if_neg (by decide)]⟩
 ·rw [if_neg (by omega),if_pos h]
  exact qdd (by show (3:Int)≠4;decide) (by show (3:Int)≠5;decide)
 ·rw [if_neg (by omega),if_neg (by omega)]
  exact (qdd (t:=qew n) (by rw [qew,if_neg (by omega)];exact ne_) (by rw [qew,if_neg (by omega)];exact ne_)).app (ql3 n.kids fun x hx=>qlq (ih x hx (h2 x hx) (qx hw hx)) _)
theorem qbw {t:T} {ts:List T} (h:Bal [t]) (k:Bal ts):Bal (t :: ts):=h.app k
theorem qu5 (n:N):Bal [vaT n]:=(qdd (t:=vaT n) (by show (1:Int)≠4;decide) (by show (1:Int)≠5;decide)).1
theorem quj {ts:List T} (h:Bal ts) (b:Bool):Bal (cloK b ts):=by
 cases b with
 | true=>exact h
 | false =>
  intro x r d hd
  have e:cloK false ts ++ r = mkT [40] :: (ts ++ mkT [41] :: r):=by simp [cloK]
  rw [e];exact qnp (by decide) (by decide) (by decide) h x r d (by omega)
theorem qt3 {l:List (List T)} (h:∀ a∈l,Bal a):Bal (semK l):=fun x r d hd=>by
 have e:semK l ++ r = mkT [123] :: (qcm (mkT [59]) l ++ mkT [125] :: r):=by simp [semK]
 rw [e];exact qnp (by decide) (by decide) (by decide) (qh7 (qe0 (by decide) (by decide)) l h) x r d (by omega)
theorem qbcf {l:List N} (h:∀ x∈l,prW x = true):Bal (ctK l):=by
 rw [ctK]
 split
 ·exact bal_nil.1
 ·refine Bal.app (quj (qh7 (qe0 (by decide) (by decide)) _ fun a ha=>?_) _) (qe0 (by decide) (by decide))
  obtain ⟨x,hx,rfl⟩:=List.mem_map.1 ha
  exact (qss (h x hx)).1
theorem qbfr {n:N} (h:quW n = true):Bal (tkQ n):=by
 obtain ⟨_,_,_,_,h5,h6⟩:=qgm h
 exact (qbcf h5).app (qo5 _ h6).1
theorem balE:∀ n,(enc n).wf->(exW n = true->Bal (tkE n))∧((biW n = true∨sgW n = true)->Bal (tkB n))∧(alW n = true->Bal (tkL n)):=N.ind fun n ih hwf=>by
 have hx:∀ x∈n.kids,exW x = true->Bal (tkE x):=fun x hx h=>(ih x hx (qx hwf hx)).1 h
 refine ⟨fun h=>?_,fun h=>?_,fun h=>?_⟩
 ·rw [((wdE n hwf).1 h).2,tkE']
  rcases qdw h with ⟨h0,h1,h2,h3⟩ | ⟨h0,h1,h2,h3⟩ | ⟨h0,h1,h2,h3⟩ | ⟨h0,h1,h2,h3,h4,h5⟩ | ⟨h0,h1,h2,h3,h4⟩ | ⟨h0,h1,h2,h3,h4,h5,h6⟩ | ⟨h0,h1,h2,h3,h4,h5,h6⟩ | ⟨h0,h1,h2,h3,h4,h5,h6⟩
  ·simp only [h0,Int.reduceEq,if_false,if_true]
   exact (qdd ne_ ne_).1
  ·simp only [h0,Int.reduceEq,if_false,if_true]
   exact (qdd ne_ ne_).1
  ·simp only [h0,Int.reduceEq,if_false,if_true]
   exact (qdd (by show (3:Int)≠4;decide) (by show (3:Int)≠5;decide)).1
  ·simp only [h0,Int.reduceEq,if_false,if_true]
   have hl:n.kids.length = 2:=by rw [h2];rfl
   exact (quj (hx _ (qe (by omega)) h4) _).app (quj (hx _ (qe (by omega)) h5) _)
  ·simp only [h0,Int.reduceEq,if_false,if_true]
   have hl:n.kids.length = 1:=by rw [h2];rfl
   exact qbw (qe0 (by decide) (by decide)) (qbw (qu5 n) (qbw (qe0 (by decide) (by decide)) (hx _ (qe (by omega)) h4)))
  ·simp only [h0,Int.reduceEq,if_false,if_true]
   have hl:0 < n.kids.length:=by rw [h2];simp
   refine qbw (qiq _ (by decide) (by decide)) ((qt3 fun a ha=>?_).app (qbw (qiq _ (by decide) (by decide)) (hx _ (qe (by omega)) h6)))
   obtain ⟨x,hxm,rfl⟩:=List.mem_map.1 ha
   have hxk:=List.mem_of_mem_take hxm
   exact (ih x hxk (qx hwf hxk)).2.1 (h4 x hxm)
  ·simp only [h0,Int.reduceEq,if_false,if_true]
   have hl:0 < n.kids.length:=by rw [h2];simp
   refine qbw (qiq _ (by decide) (by decide)) ((hx _ (qe (by omega)) h4).app (qbw (qiq _ (by decide) (by decide)) (qt3 fun a ha=>?_)))
   obtain ⟨x,hxm,rfl⟩:=List.mem_map.1 ha
   have hxk:=List.mem_of_mem_drop hxm
   exact (ih x hxk (qx hwf hxk)).2.2 (h5 x hxm)
  ·simp only [h0,Int.reduceEq,if_false,if_true]
   have hl:n.kids.length = 3:=by rw [h2];rfl
   exact qbw (qiq _ (by decide) (by decide)) ((hx _ (qe (by omega)) h4).app (qbw (qiq _ (by decide) (by decide)) ((hx _ (qe (by omega)) h5).app (qbw (qiq _ (by decide) (by decide)) (hx _ (qe (by omega)) h6)))))
 ·rw [((wdE n hwf).2.1 h).2,tkB']
  rcases h with h | h
  ·obtain ⟨h1,_,h3,h4,h5⟩:=qdx h
   have hl:n.kids.length = 1:=by rw [h4];rfl
   rw [if_pos h1]
   exact qbw (qu5 n) (qbw (qe0 (by decide) (by decide)) (hx _ (qe (by omega)) h5))
  ·obtain ⟨h1,_,h3,h4,h5⟩:=qds h
   rw [if_neg (by omega)]
   exact qbw (qu5 n) (qbw (qe0 (by decide) (by decide)) (qbfr h5))
 ·rw [((wdE n hwf).2.2 h).2,tkL']
  obtain ⟨_,_,_,h4,h5,h6⟩:=qef h
  have hl:n.kids.length = 2:=by rw [h4];rfl
  exact (q1x _ h5 (qx hwf (qe (by omega)))).1.app (qbw (qe0 (by decide) (by decide)) (hx _ (qe (by omega)) h6))
/-! what is read -/
def NoE (r:List T):Prop:=∀ t s,r = t :: s->t.kind≠1∧t.kind≠2∧t.kind≠3∧qba t [40] = false
theorem qwe {w:List UInt8} {s:List T} (h:w≠[40]):NoE (mkT w :: s):=fun t s' e=>by
 obtain ⟨rfl,_⟩:=List.cons.inj e
 exact ⟨ne_,ne_,ne_,by simp [qba,mkT,h]⟩
theorem qv5 {w:List UInt8} {s:List T} (h:w≠[40]):NoE (rsT w :: s):=fun t s' e=>by
 obtain ⟨rfl,_⟩:=List.cons.inj e
 exact ⟨ne_,ne_,ne_,by simp [qba,rsT,h]⟩
theorem NoE.A {r:List T} (h:NoE r):NoA r:=fun t s e=>⟨(h t s e).1,(h t s e).2.1,(h t s e).2.2.2⟩
theorem qfy (w:List UInt8):qba (rsT w) w = true:=by simp [qba,rsT]
theorem q12 {c:K} {r:List T} (h:Ah c r) (hr:NoE r):begE c = false:=by
 unfold begE qic
 cases r with
 | nil =>
   obtain ⟨e1,e2⟩:=Ah.nil h
   rw [e1,e2];rfl
 | cons t s =>
   obtain ⟨h1,h2,h3,h5⟩:=hr t s rfl
   rw [h.kind,h.is,if_neg h1,if_neg h2,if_neg h3,h5];rfl
theorem q13 {c:K} {t:T} {r:List T} (h:Ah c (t :: r)) (ht:t.kind = 1∨t.kind = 2∨t.kind = 3∨qba t [40] = true):begE c = true:=by
 unfold begE qic
 rw [h.kind,h.is]
 by_cases h1:t.kind = 1
 ·rw [if_pos h1];rfl
 rw [if_neg h1]
 by_cases h2:t.kind = 2
 ·rw [if_pos h2];rfl
 rw [if_neg h2]
 by_cases h3:t.kind = 3
 ·rw [if_pos h3];rfl
 rw [if_neg h3]
 rcases ht with e | e | e | e
 ·exact absurd e h1
 ·exact absurd e h2
 ·exact absurd e h3
 ·rw [e];simp
theorem qpe {n:N} (h:exW n = true) (hl:n.kids = []):∃ t,tkE' n = [t]∧(t.kind = 1∨t.kind = 2∨t.kind = 3)∧n.kind≠24∧∀ c r,Ah c (t :: r)->∃ x,qic c = some x∧NS x n:=by
 rcases qdw h with ⟨h0,h1,h2,h3⟩ | ⟨h0,h1,h2,h3⟩ | ⟨h0,h1,h2,h3⟩ | ⟨h0,h1,h2,h3,h4,h5⟩ | ⟨h0,h1,h2,h3,h4⟩ | ⟨h0,h1,h2,h3,h4,h5,h6⟩ | ⟨h0,h1,h2,h3,h4,h5,h6⟩ | ⟨h0,h1,h2,h3,h4,h5,h6⟩
 ·refine ⟨⟨1,0,0,n.text⟩,by simp only [tkE',h0,Int.reduceEq,if_false,if_true],.inl rfl,by omega,fun c r hc=>?_⟩
  refine ⟨qll c 21 [],by unfold qic;rw [if_pos hc.kind],qde h0.symm h3.symm hc.text (by rw [hl];rfl)⟩
 ·refine ⟨⟨2,0,0,n.text⟩,by simp only [tkE',h0,Int.reduceEq,if_false,if_true],.inr (.inl rfl),by omega,fun c r hc=>?_⟩
  have hk:=hc.kind
  refine ⟨qll c 22 [],by unfold qic;rw [if_neg (by rw [hk];exact ne_),if_pos hk],qde h0.symm h3.symm hc.text (by rw [hl];rfl)⟩
 ·refine ⟨intT n.num,by simp only [tkE',h0,Int.reduceEq,if_false,if_true],.inr (.inr rfl),by omega,fun c r hc=>?_⟩
  have hk:=hc.kind
  refine ⟨.mk 23 (qr c).pos (qr c).num [] [],by unfold qic;rw [if_neg (by rw [hk];exact ne_),if_neg (by rw [hk];exact ne_),if_pos (by rw [hk];rfl)],qde h0.symm hc.num h1.symm (by rw [hl];rfl)⟩
 ·rw [hl] at h2;cases h2
 ·rw [hl] at h2;cases h2
 ·rw [hl] at h2;exact absurd h2.symm (by simp)
 ·rw [hl] at h2;cases h2
 ·rw [hl] at h2;cases h2
section
variable {rec:K->K×Option N}
theorem q00 {n:N} (ht:exW n = true) (hw:(enc n).wf) {b:Bool} (hb:b = true->n.kids = []) {c:K} {r:List T} (h:Ah c (cloK b (tkE n) ++ r)) (hn:b = false->c.nest < 200)
 (ih:b = false->∀ d,Ah d (tkE n ++ mkT [41] :: r)->rest d < rest c->d.nest = c.nest + 1->Got d (rec d) n (mkT [41] :: r)):Got c (qbn rec c) n r:=by
 unfold qbn
 cases hbb:b with
 | true =>
   obtain ⟨t,e,_,_,hleaf⟩:=qpe ht (hb hbb)
   rw [hbb,cloK,if_pos rfl,((wdE n hw).1 ht).2,e,List.singleton_append] at h
   obtain ⟨x,e1,e2⟩:=hleaf c r h
   obtain ⟨_,h2,h3⟩:=h.cons
   rw [if_pos (by rw [e1];rfl)]
   exact ⟨x,e1,e2,h2,h3⟩
 | false =>
   rw [hbb,cloK,if_neg Bool.false_ne_true,List.cons_append,List.append_assoc,List.singleton_append] at h
   have hki:=h.kind
   have hlf:qic c = none:=by
    unfold qic
    rw [hki,if_neg (by decide),if_neg (by decide),if_neg (by decide)]
   rw [if_neg (by rw [hlf];decide),if_pos (by rw [h.is];exact qbc _)]
   obtain ⟨n1,n2,n3⟩:=h.enter (hn hbb)
   rw [if_pos n1]
   obtain ⟨_,q1,q2⟩:=n2.cons
   have hlt:rest (qk (qi c).1) < rest c:=by rw [q1.len,h.len];simp
   obtain ⟨x,g1,g2,g3,g4⟩:=ih hbb _ q1 hlt (q2.trans n3)
   rw [if_pos (by rw [g1];rfl),g3.want (qbc _)]
   dsimp only
   rw [if_pos rfl]
   obtain ⟨_,q3,q4⟩:=g3.cons
   obtain ⟨l1,l2⟩:=q3.leave (m:=c.nest) (by rw [q4,g4,q2,n3])
   exact ⟨x,g1,g2,l1,l2⟩
theorem qpv {n:N} (ht:exW n = true) (hw:(enc n).wf) {b:Bool} (hb:b = true->n.kids = []):∃ t s,cloK b (tkE n) = t :: s∧(t.kind = 1∨t.kind = 2∨t.kind = 3∨qba t [40] = true):=by
 cases hbb:b with
 | true =>
   obtain ⟨t,e,h1,_,_⟩:=qpe ht (hb hbb)
   refine ⟨t,[],by rw [cloK,if_pos rfl,((wdE n hw).1 ht).2,e],?_⟩
   rcases h1 with h | h | h
   ·exact .inl h
   ·exact .inr (.inl h)
   ·exact .inr (.inr (.inl h))
 | false=>exact ⟨_,_,by rw [cloK,if_neg Bool.false_ne_true],.inr (.inr (.inr (qbc _)))⟩
theorem qm3 (f:Nat) (c:K) (n:N):qgz rec (f + 1) c n = if begE c = true then if (qbn rec c).2.isSome = true then qgz rec f (qbn rec c).1 (appN n ((qbn rec c).2.getD N0)) else ((qbn rec c).1,appN n ((qbn rec c).2.getD N0),false) else (c,n,true):=by rw [qgz]
theorem q0m:∀ (n:N),exW n = true->(enc n).wf->∀ (c:K) (r:List T),Ah c (opK n ++ r)->(n.kids≠[]->c.nest + 2 * dp n≤202) →
 (∀ x:N,x.kids≠[]->dp x + (if n.kind = 24 then 1 else 0)≤dp n->exW x = true->(enc x).wf->∀ d s,Ah d (tkE x ++ mkT [41] :: s)->rest d < rest c->d.nest = c.nest + 1->Got d (rec d) x (mkT [41] :: s)) →
 ∃ x c' g,NS x n∧Ah c' r∧c'.nest = c.nest∧rest c' + 1≤g∧rest c' < rest c∧qqq rec c = qgz rec g c' x:=N.ind fun n ihn ht hw c r h hn ih=>by
 by_cases hk:n.kind = 24
 ·have hk':=hk
  obtain ⟨h1,h2,h3,h4,h5⟩:n.text = []∧n.kids = [ekN n 0,ekN n 1]∧n.num = 0∧exW (ekN n 0) = true∧exW (ekN n 1) = true:=by
   rcases qdw ht with ⟨h,_⟩ | ⟨h,_⟩ | ⟨h,_⟩ | ⟨h,h1,h2,h3,h4,h5⟩ | ⟨h,_⟩ | ⟨h,_⟩ | ⟨h,_⟩ | ⟨h,_⟩<;>first | omega | exact ⟨h1,h2,h3,h4,h5⟩
  have hl:n.kids.length = 2:=by rw [h2];rfl
  have m0:ekN n 0∈n.kids:=qe (by omega)
  have m1:ekN n 1∈n.kids:=qe (by omega)
  have hne:n.kids≠[]:=by rw [h2];simp
  have hnest:=hn hne
  have d0:=qbq m0
  have d1:=qbq m1
  have hto:opK n = opK (ekN n 0) ++ agK (ekN n 1):=by
   rw [opK,decide_eq_true hk,Bool.or_true,cloK,if_pos rfl,((wdE n hw).1 ht).2]
   simp only [tkE',hk,Int.reduceEq,if_false,if_true]
  rw [hto,List.append_assoc] at h
  have hb1:qn (ekN n 1) = true->(ekN n 1).kids = []:=fun e=>of_decide_eq_true e
  obtain ⟨x,c',g,s1,s2,s3,s4,s5,s6⟩:=ihn _ m0 h4 (qx hw m0) c _ h (fun _=>by omega) fun x hx hdx hxe hxw d s hd hdr hdn=>ih x hx (by rw [if_pos hk];omega) hxe hxw d s hd hdr hdn
  obtain ⟨t,u,e1,e2⟩:=qpv h5 (qx hw m1) hb1
  have hbeg:begE c' = true:=by
   have s2':=s2
   rw [agK,e1,List.cons_append] at s2'
   exact q13 s2' e2
  obtain ⟨y,g1,g2,g3,g4⟩:=q00 (rec:=rec) h5 (qx hw m1) hb1 (c:=c') (r:=r) s2 (fun hlf=>by
   have:1≤dp (ekN n 1):=qfi _
   omega) fun hlf d hd hdr hdn=>ih _ (fun e=>by rw [qn,decide_eq_true e] at hlf;cases hlf) (by rw [if_pos hk];omega) h5 (qx hw m1) d r hd (by omega) (by rw [hdn,s3])
  have hlt:rest (qbn rec c').1 < rest c':=by
   rw [g3.len,s2.len,agK,e1];simp only [List.length_append,List.length_cons];omega
  obtain ⟨g',rfl⟩:∃ g',g = g' + 1:=⟨g - 1,by omega⟩
  rw [qm3,if_pos hbeg,if_pos (by rw [g1];rfl),g1] at s6
  refine ⟨appN x y,_,g',qde hk.symm h3.symm h1.symm ?_,g3,g4.trans s3,by omega,by omega,s6⟩
  rw [h2]
  show [qf x,qf y] = [qf _,qf _]
  rw [show qf x = qf (ekN n 0) from s1,show qf y = qf (ekN n 1) from g2]
 ·have hb:qn n = true->n.kids = []:=fun e=>of_decide_eq_true e
  rw [opK,decide_eq_false hk,Bool.or_false] at h
  obtain ⟨y,g1,g2,g3,g4⟩:=q00 (rec:=rec) ht hw hb h (fun hlf=>by
   have hne:n.kids≠[]:=fun e=>by rw [qn,decide_eq_true e] at hlf;cases hlf
   have:=hn hne
   obtain ⟨x,l,e⟩:∃ x l,n.kids = x :: l:=by
    cases hq:n.kids with
    | nil=>exact absurd hq hne
    | cons x l=>exact ⟨x,l,rfl⟩
   have h1:=qbq (n:=n) (x:=x) (by rw [e];simp)
   have h2:=qfi x
   omega) fun hlf d hd hdr hdn=>ih n (fun e=>by rw [qn,decide_eq_true e] at hlf;cases hlf) (by rw [if_neg hk];omega) ht hw d r hd hdr hdn
  obtain ⟨t,u,e1,e2⟩:=qpv ht hw hb
  have hlt:rest (qbn rec c).1 < rest c:=by
   rw [g3.len,h.len,e1];simp only [List.length_append,List.length_cons];omega
  refine ⟨y,_,rest (qbn rec c).1 + 1,g2,g3,g4,Nat.le_refl _,hlt,?_⟩
  unfold qqq
  rw [if_pos (by rw [g1];rfl),g1];rfl
end

def Got3 (c:K) (p:R3) (n:N) (r:List T):Prop:=p.2.2 = true∧NS p.2.1 n∧Ah p.1 r∧p.1.nest = c.nest
theorem qu6 {c:K} {p:R3} {n:N} {r:List T} (h:Got3 c p n r):Got c (toO p) n r:=⟨p.2.1,by rw [toO,if_pos h.1],h.2.1,h.2.2.1,h.2.2.2⟩
theorem qvw {c:K} {p:K×Option N} {n:N} {r:List T} (h:Got c p n r):Got3 c (ofO p) n r:=by
 obtain ⟨x,h1,h2,h3,h4⟩:=h
 exact ⟨by rw [ofO,h1];rfl,by rw [ofO,h1];exact h2,h3,h4⟩
def StS (r:List T):Prop:=NoE r∧NoR r∧qbe [61,62] r 0 = false
theorem qbby (s:List T):StS (mkT [59] :: s):=⟨qwe (by decide),qj9 (by decide),by rw [qbe,if_neg (by decide),if_neg (by decide),if_neg (by decide),if_pos (by decide)]⟩
theorem q85 (s:List T):StS (mkT [125] :: s):=⟨qwe (by decide),qj9 (by decide),by rw [qbe,if_neg (by decide),if_pos (by decide),if_pos (by decide)]⟩
theorem qqx {rd:K->R3} {g:N->List T} {c0:K}:∀ (l:List N) (f:Nat) (c:K) (acc:List N) (r:List T),l≠[] →
 (∀ x∈l,∀ d s,Ah d (g x ++ s)->StS s->rest d≤rest c0->d.nest = c0.nest->Got3 d (rd d) x s)->(∀ x∈l,∃ t s,g x = t :: s∧qba t [125] = false) →
 Ah c (qcm (mkT [59]) (l.map g) ++ mkT [125] :: r)->l.length < f->rest c≤rest c0->c.nest = c0.nest →
 ∃ xs,(qek rd f c acc).2 = (acc ++ xs,true)∧xs.map qf = l.map qf∧Ah (qek rd f c acc).1 r∧(qek rd f c acc).1.nest = c.nest
 | [],_,_,_,_,h,_,_,_,_,_,_=>absurd rfl h
 | l,0,_,_,_,_,_,_,_,hf,_,_=>by omega
 | [x], f + 1, c, acc, r, _, hrd, hg, h, _, hc, hn => by
   rw [qek]
   obtain ⟨g1,g2,g3,g4⟩:=hrd x (by simp) c _ h (q85 r) hc hn
   have hno:=g3.leave_it (x:=[59]) (by decide)
   rw [if_pos g1,hno]
   dsimp only
   rw [Bool.false_and,if_neg Bool.false_ne_true,g3.want (qbc _)]
   obtain ⟨_,q1,q2⟩:=g3.cons
   exact ⟨[(rd c).2.1],rfl,congrArg (· :: []) g2,q1,q2.trans g4⟩
 | x :: y :: l, f + 1, c, acc, r, _, hrd, hg, h, hf, hc, hn => by
   rw [qek]
   rw [List.map_cons,List.map_cons,qcm,← List.map_cons,List.append_assoc,List.cons_append] at h
   obtain ⟨g1,g2,g3,g4⟩:=hrd x (by simp) c _ h (qbby _) hc hn
   have hyes:=g3.take (x:=[59]) (qbc _)
   obtain ⟨_,q1,q2⟩:=g3.cons
   have hne:isK (qk (rd c).1) [125] = false:=by
    obtain ⟨t,s,e1,e2⟩:=hg y (by simp)
    have hj:∃ u,qcm (mkT [59]) ((y :: l).map g) = t :: u:=by
     cases l with
     | nil=>exact ⟨s,by rw [List.map_singleton,qcm,e1]⟩
     | cons z l=>exact ⟨_,by rw [List.map_cons,List.map_cons,qcm,e1,List.cons_append]⟩
    obtain ⟨u,e3⟩:=hj
    have q1':=q1
    rw [e3,List.cons_append] at q1'
    rw [q1'.is,e2]
   rw [if_pos g1,hyes]
   dsimp only
   rw [hne,Bool.not_false,Bool.and_true,if_pos rfl]
   have hlt:rest (qk (rd c).1)≤rest c:=by rw [q1.len,h.len];simp only [List.length_append,List.length_cons];omega
   obtain ⟨xs,k1,k2,k3,k4⟩:=qqx (y :: l) f _ (acc ++ [(rd c).2.1]) r (by simp) (fun z hz=>hrd z (by simp at hz ⊢;exact .inr hz)) (fun z hz=>hg z (by simp at hz ⊢;exact .inr hz)) q1 (by simp at hf ⊢;omega) (by omega) (by rw [q2,g4,hn])
   refine ⟨(rd c).2.1 :: xs,by rw [k1];simp,?_,k3,k4.trans (q2.trans g4)⟩
   rw [List.map_cons,List.map_cons,k2];exact congrArg (· :: _) g2
theorem qya {t:T} (l:List (List T)):l.length≤(qcm t l).length + 1:=by
 induction l with
 | nil=>simp
 | cons a m ih => cases m with
   | nil=>simp
   | cons b m =>
     rw [qcm]
     simp only [List.length_append,List.length_cons] at ih ⊢
     omega
theorem qtx {rd:K->R3} {g:N->List T} {l:List N} (hl:l≠[]) {c:K} {r:List T} (h:Ah c (semK (l.map g) ++ r)) (hg:∀ x∈l,∃ t s,g x = t :: s∧qba t [125] = false)
 (hrd:∀ x∈l,∀ d s,Ah d (g x ++ s)->StS s->rest d < rest c->d.nest = c.nest->Got3 d (rd d) x s) :
 ∃ xs,(qf7 rd c).2 = (xs,true)∧xs.map qf = l.map qf∧Ah (qf7 rd c).1 r∧(qf7 rd c).1.nest = c.nest:=by
 rw [semK,List.cons_append,List.append_assoc,List.singleton_append] at h
 obtain ⟨_,q1,q2⟩:=h.cons
 have hlt:rest (qk c) < rest c:=by rw [q1.len,h.len];simp
 unfold qf7
 rw [h.want (qbc _)]
 dsimp only
 rw [if_pos rfl]
 have hfl:l.length < rest (qk c) + 1:=by
  have:=qya (t:=mkT [59]) (l.map g)
  rw [List.length_map] at this
  rw [q1.len];simp only [List.length_append,List.length_cons];omega
 obtain ⟨xs,k1,k2,k3,k4⟩:=qqx (rd:=rd) (g:=g) (c0:=qk c) l (rest (qk c) + 1) (qk c) [] r hl (fun x hx d s hd hs hr hn=>hrd x hx d s hd hs (by omega) (by rw [hn,q2])) hg q1 hfl (Nat.le_refl _) rfl
 rw [List.nil_append] at k1
 exact ⟨xs,k1,k2,k3,k4.trans q2⟩
section
variable {rec:K->K×Option N} {b:Nat} (IH:∀ (m:N) (d:K) (s:List T),exW m = true->(enc m).wf->Ah d (tkE m ++ s)->NoE s->rest d < b->d.nest + 2 * dp m≤201->Got d (rec d) m s)
include IH
theorem qqo {n:N} (ht:exW n = true) (hw:(enc n).wf) (hk:n.kind = 24∨n.kids = []) {c:K} {r:List T} (h:Ah c (tkE n ++ r)) (hr:NoE r) (hb:rest c≤b) (hn:c.nest + 2 * dp n≤202):Got3 c (qqq rec c) n r:=by
 have hop:opK n = tkE n:=by
  rw [opK,cloK]
  rcases hk with hk | hk
  ·rw [decide_eq_true hk,Bool.or_true,if_pos rfl]
  ·rw [qn,decide_eq_true hk,Bool.true_or,if_pos rfl]
 rw [← hop] at h
 obtain ⟨x,c',g,s1,s2,s3,s4,s5,s6⟩:=q0m (rec:=rec) n ht hw c r h (fun _=>hn) fun x hx hdx hxe hxw d s hd hdr hdn=>IH x d _ hxe hxw hd (qwe (by decide)) (by omega) (by
  rcases hk with hk | hk
  ·rw [if_pos hk] at hdx;omega
  ·have h1:dp n = 1:=by rw [qj6,hk];rfl
   have h2:2≤dp x:=qtk (decide_eq_false hx)
   omega)
 rw [s6]
 obtain ⟨g',rfl⟩:∃ g',g = g' + 1:=⟨g - 1,by omega⟩
 rw [qm3,q12 s2 hr,if_neg Bool.false_ne_true]
 exact ⟨rfl,s1,s2,s3⟩
theorem quf {n:N} (ht:exW n = true) (hw:(enc n).wf) {x:List UInt8} {c:K} {r:List T} (h:Ah c (mkT x :: (tkE n ++ r))) (hr:NoE r) (hb:rest c≤b) (hn:c.nest + 2 * dp n≤201) (f:Nat):Got3 c (qeg rec x (f + 1) c) n r:=by
 obtain ⟨_,q1,q2⟩:=h.cons
 have hlt:rest (qk c) < rest c:=by rw [q1.len,h.len];simp
 rw [qeg,if_neg (by rw [h.kind];exact ne_),h.want (qbc _)]
 dsimp only
 rw [if_pos rfl]
 obtain ⟨g1,g2,g3,g4⟩:=qvw (IH n (qk c) r ht hw q1 hr (by omega) (by rw [q2];exact hn))
 exact ⟨g1,g2,g3,g4.trans q2⟩
theorem q6g {n:N} (ht:biW n = true∨sgW n = true) (hw:(enc n).wf) {c:K} {r:List T} (h:Ah c (tkB n ++ r)) (hr:StS r) (hb:rest c≤b) (hn:c.nest + 2 * dp n≤203):Got c (qg6 rec c) n r:=by
 rw [((wdE n hw).2.1 ht).2,tkB'] at h
 rcases ht with ht | ht
 ·obtain ⟨h1,h2,h3,h4,h5⟩:=qdx ht
  have hl:n.kids.length = 1:=by rw [h4];rfl
  have m0:ekN n 0∈n.kids:=qe (by omega)
  have d0:=qbq m0
  rw [if_pos h1,List.cons_append,List.cons_append] at h
  obtain ⟨k1,k2⟩:=h.kindK (k:=1) rfl
  have hte:=h.text
  obtain ⟨_,q1,q2⟩:=h.cons
  have hlt:rest (qk c) < rest c:=by rw [q1.len,h.len];simp
  have hno:=q1.leave_it (x:=[58,58]) (by decide)
  unfold qg6
  rw [k1,k2]
  dsimp only
  rw [if_pos rfl,hno]
  dsimp only
  rw [if_neg Bool.false_ne_true]
  obtain ⟨x,g1,g2,g3,g4⟩:=qu6 (quf IH h5 (qx hw m0) q1 hr.1 (by omega) (by rw [q2];omega) (rest (qk c)))
  rw [g1]
  refine ⟨_,rfl,qde h1.symm h2.symm hte ?_,g3,g4.trans q2⟩
  rw [h4];exact congrArg (· :: []) g2
 ·obtain ⟨h1,h2,h3,h4,h5⟩:=qds ht
  have hl:n.kids.length = 1:=by rw [h4];rfl
  have m0:ekN n 0∈n.kids:=qe (by omega)
  have d0:=qbq m0
  rw [if_neg (by omega),List.cons_append,List.cons_append] at h
  obtain ⟨k1,k2⟩:=h.kindK (k:=1) rfl
  have hte:=h.text
  obtain ⟨_,q1,q2⟩:=h.cons
  have hyes:=q1.take (x:=[58,58]) (qbc _)
  obtain ⟨_,q3,q4⟩:=q1.cons
  unfold qg6
  rw [k1,k2]
  dsimp only
  rw [if_pos rfl,hyes]
  dsimp only
  rw [if_pos rfl]
  obtain ⟨x,g1,g2,g3,g4⟩:=q1m h5 q3 hr.1.A hr.2.1 hr.2.2 (f:=rest (qk (qk c)) + 2) (by omega) (by rw [q4,q2];omega)
  rw [g1]
  refine ⟨_,rfl,qde h1.symm h2.symm hte ?_,g3,g4.trans (q4.trans q2)⟩
  rw [h4];exact congrArg (· :: []) g2
theorem qbbs {n:N} (ht:alW n = true) (hw:(enc n).wf) {c:K} {r:List T} (h:Ah c (tkL n ++ r)) (hr:NoE r) (hb:rest c≤b) (hn:c.nest + 2 * dp n≤203):Got3 c (qq6 rec c) n r:=by
 rw [((wdE n hw).2.2 ht).2,tkL'] at h
 obtain ⟨h1,h2,h3,h4,h5,h6⟩:=qef ht
 have hl:n.kids.length = 2:=by rw [h4];rfl
 have m0:ekN n 0∈n.kids:=qe (by omega)
 have m1:ekN n 1∈n.kids:=qe (by omega)
 have d0:=qbq m0
 have d1:=qbq m1
 rw [List.append_assoc,List.cons_append] at h
 obtain ⟨x,g1,g2,g3,g4⟩:=q1b (rest c + 2) _ c _ h5 (qx hw m0) h (q1j (by decide) (by decide)) (by omega) (by omega)
 unfold qq6 altB
 rw [if_pos (by rw [g1];rfl),g1,g3.want (x:=[45,62]) (qbc _)]
 dsimp only [Option.getD_some]
 unfold altC
 rw [if_pos rfl]
 obtain ⟨_,q1,q2⟩:=g3.cons
 have hlt:rest (qk (qj8 (rest c + 2) c).1) < rest c:=by rw [q1.len,h.len];simp only [List.length_append,List.length_cons];omega
 obtain ⟨y,k1,k2,k3,k4⟩:=IH _ _ r h6 (qx hw m1) q1 hr (by omega) (by rw [q2,g4];omega)
 refine ⟨by dsimp only;rw [k1];rfl,?_,k3,k4.trans (q2.trans g4)⟩
 dsimp only
 rw [k1]
 refine qde h1.symm h3.symm h2.symm ?_
 rw [h4]
 show [qf x,qf y] = [qf _,qf _]
 rw [show qf x = qf (ekN n 0) from g2,show qf y = qf (ekN n 1) from k2]
end

theorem qwt {n:N} (ht:biW n = true∨sgW n = true) (hw:(enc n).wf):∃ t s,tkB n = t :: s∧qba t [125] = false:=by
 rw [((wdE n hw).2.1 ht).2,tkB']
 split<;>exact ⟨_,_,rfl,qbm (t:=vaT n) ne_ ne_ _⟩
theorem qy3 {n:N} (ht:paW n = true) (hw:(enc n).wf):∃ t s,tkP n = t :: s∧qba t [125] = false:=by
 rw [(wdP n ht hw).2,tkP']
 rcases qdc ht with ⟨h,h1,h2,h3⟩ | ⟨h,h1,h2,h3⟩ | ⟨h,h1,h2,h3⟩ | ⟨h,h1,h2,h3⟩
 ·rw [if_neg (by omega),if_neg (by omega)]
  exact ⟨_,_,rfl,qbm (by rw [qew,if_pos h];exact ne_) (by rw [qew,if_pos h];exact ne_) _⟩
 ·rw [if_pos h];exact ⟨_,_,rfl,by decide⟩
 ·rw [if_neg (by omega),if_pos h];exact ⟨_,_,rfl,qbm (t:=intT n.num) ne_ ne_ _⟩
 ·rw [if_neg (by omega),if_neg (by omega)]
  exact ⟨_,_,rfl,qbm (by rw [qew,if_neg (by omega)];exact ne_) (by rw [qew,if_neg (by omega)];exact ne_) _⟩
theorem qwp {n:N} (ht:alW n = true) (hw:(enc n).wf):∃ t s,tkL n = t :: s∧qba t [125] = false:=by
 rw [((wdE n hw).2.2 ht).2,tkL']
 obtain ⟨_,_,_,h4,h5,_⟩:=qef ht
 have hl:n.kids.length = 2:=by rw [h4];rfl
 obtain ⟨t,s,e,h⟩:=qy3 h5 (qx hw (qe (by omega)))
 exact ⟨t,_,by rw [e,List.cons_append],h⟩
theorem qkl {t:T} {a x:List UInt8} (h:t = rsT a) (hx:a≠x):qba t x = false:=by subst h;simp [qba,rsT,hx]
section
variable {rec:K->K×Option N} {b:Nat} (IH:∀ (m:N) (d:K) (s:List T),exW m = true->(enc m).wf->Ah d (tkE m ++ s)->NoE s->rest d < b->d.nest + 2 * dp m≤201->Got d (rec d) m s)
include IH
theorem q7c {n:N} (ht:exW n = true) (hw:(enc n).wf) {c:K} {r:List T} (h:Ah c (tkE n ++ r)) (hr:NoE r) (hb:rest c≤b) (hn:c.nest + 2 * dp n≤202):Got3 c (qir rec c) n r:=by
 have h':=h
 rw [((wdE n hw).1 ht).2,tkE'] at h
 unfold qir
 rcases qdw ht with ⟨h0,h1,h2,h3⟩ | ⟨h0,h1,h2,h3⟩ | ⟨h0,h1,h2,h3⟩ | ⟨h0,h1,h2,h3,h4,h5⟩ | ⟨h0,h1,h2,h3,h4⟩ | ⟨h0,h1,h2,h3,h4,h5,h6⟩ | ⟨h0,h1,h2,h3,h4,h5,h6⟩ | ⟨h0,h1,h2,h3,h4,h5,h6⟩
 ·simp only [h0,Int.reduceEq,if_false,if_true,List.cons_append] at h
  rw [h.leave_it (qbm ne_ ne_ _)]
  dsimp only
  rw [if_neg Bool.false_ne_true,h.leave_it (qbm ne_ ne_ _)]
  dsimp only
  rw [if_neg Bool.false_ne_true,h.leave_it (qbm ne_ ne_ _)]
  dsimp only
  rw [if_neg Bool.false_ne_true,h.leave_it (qbm ne_ ne_ _)]
  dsimp only
  rw [if_neg Bool.false_ne_true]
  exact qqo IH ht hw (.inr h2) h' hr hb hn
 ·simp only [h0,Int.reduceEq,if_false,if_true,List.cons_append] at h
  rw [h.leave_it (qbm ne_ ne_ _)]
  dsimp only
  rw [if_neg Bool.false_ne_true,h.leave_it (qbm ne_ ne_ _)]
  dsimp only
  rw [if_neg Bool.false_ne_true,h.leave_it (qbm ne_ ne_ _)]
  dsimp only
  rw [if_neg Bool.false_ne_true,h.leave_it (qbm ne_ ne_ _)]
  dsimp only
  rw [if_neg Bool.false_ne_true]
  exact qqo IH ht hw (.inr h2) h' hr hb hn
 ·simp only [h0,Int.reduceEq,if_false,if_true,List.cons_append] at h
  rw [h.leave_it (qbm ne_ ne_ _)]
  dsimp only
  rw [if_neg Bool.false_ne_true,h.leave_it (qbm ne_ ne_ _)]
  dsimp only
  rw [if_neg Bool.false_ne_true,h.leave_it (qbm ne_ ne_ _)]
  dsimp only
  rw [if_neg Bool.false_ne_true,h.leave_it (qbm ne_ ne_ _)]
  dsimp only
  rw [if_neg Bool.false_ne_true]
  exact qqo IH ht hw (.inr h2) h' hr hb hn
 ·-- an application: its first word
  have hfst:∀ m:N,exW m = true->(enc m).wf->∃ t s,opK m = t :: s∧∀ x:List UInt8,x≠[40]->qba t x = false:=N.ind fun m ihm hm hmw=>by
   by_cases hk:m.kind = 24
   ·obtain ⟨q2,q4⟩:m.kids = [ekN m 0,ekN m 1]∧exW (ekN m 0) = true:=by
     rcases qdw hm with ⟨h,_⟩ | ⟨h,_⟩ | ⟨h,_⟩ | ⟨h,h1,h2,h3,h4,h5⟩ | ⟨h,_⟩ | ⟨h,_⟩ | ⟨h,_⟩ | ⟨h,_⟩<;>first | omega | exact ⟨h2,h4⟩
    have hl:m.kids.length = 2:=by rw [q2];rfl
    have m0:ekN m 0∈m.kids:=qe (by omega)
    obtain ⟨t,s,e,hx⟩:=ihm _ m0 q4 (qx hmw m0)
    refine ⟨t,s ++ agK (ekN m 1),?_,hx⟩
    rw [opK,decide_eq_true hk,Bool.or_true,cloK,if_pos rfl,((wdE m hmw).1 hm).2]
    simp only [tkE',hk,Int.reduceEq,if_false,if_true]
    rw [e,List.cons_append]
   ·cases hlf:qn m with
    | true =>
      obtain ⟨t,e,hkd,_,_⟩:=qpe hm (of_decide_eq_true hlf)
      refine ⟨t,[],by rw [opK,hlf,Bool.true_or,cloK,if_pos rfl,((wdE m hmw).1 hm).2,e],fun x _=>qbm (by rcases hkd with h | h | h<;>rw [h]<;>decide) (by rcases hkd with h | h | h<;>rw [h]<;>decide) x⟩
    | false =>
      exact ⟨mkT [40],_,by rw [opK,hlf,decide_eq_false hk,Bool.or_self,cloK,if_neg Bool.false_ne_true],fun x hx=>by simp [qba,mkT,Ne.symm hx]⟩
  obtain ⟨t,s,e,hx⟩:=hfst n ht hw
  have hop:opK n = tkE n:=by rw [opK,decide_eq_true h0,Bool.or_true,cloK,if_pos rfl]
  have h2':=h'
  rw [← hop,e,List.cons_append] at h2'
  rw [h2'.leave_it (hx _ (by decide))]
  dsimp only
  rw [if_neg Bool.false_ne_true,h2'.leave_it (hx _ (by decide))]
  dsimp only
  rw [if_neg Bool.false_ne_true,h2'.leave_it (hx _ (by decide))]
  dsimp only
  rw [if_neg Bool.false_ne_true,h2'.leave_it (hx _ (by decide))]
  dsimp only
  rw [if_neg Bool.false_ne_true]
  exact qqo IH ht hw (.inl h0) h' hr hb hn
 ·have hl:n.kids.length = 1:=by rw [h2];rfl
  have m0:ekN n 0∈n.kids:=qe (by omega)
  have d0:=qbq m0
  simp only [h0,Int.reduceEq,if_false,if_true,List.cons_append] at h
  rw [h.take (qbc _)]
  dsimp only
  obtain ⟨_,q1,q2⟩:=h.cons
  have hk1:(qr (qk c)).kind = 1:=q1.kind
  have hte:=q1.text
  rw [if_pos rfl,if_pos hk1]
  obtain ⟨_,q3,q4⟩:=q1.cons
  have hl1:rest (qk c) < rest c:=by rw [q1.len,h.len];simp
  have hl2:rest (qk (qk c)) < rest (qk c):=by rw [q3.len,q1.len];simp
  rw [qeg,if_pos hk1]
  obtain ⟨g,hg⟩:∃ g,rest (qk c) = g + 1:=⟨rest (qk c) - 1,by omega⟩
  rw [hg]
  obtain ⟨g1,g2,g3,g4⟩:=quf IH h4 (qx hw m0) q3 hr (by omega) (by rw [q4,q2];omega) g
  refine ⟨g1,qde h0.symm h3.symm hte ?_,g3,g4.trans (q4.trans q2)⟩
  rw [h2];exact congrArg (· :: []) g2
 ·have hl:0 < n.kids.length:=by rw [h2];simp
  have m1:ekN n (n.kids.length - 1)∈n.kids:=qe (by omega)
  have d1:=qbq m1
  have hm:∀ x∈eitN n,x∈n.kids:=fun x hx=>List.mem_of_mem_take hx
  simp only [h0,Int.reduceEq,if_false,if_true,List.cons_append,List.append_assoc] at h
  rw [h.leave_it (qkl rfl (by decide))]
  dsimp only
  rw [if_neg Bool.false_ne_true,h.take (x:=[108,101,116]) (qfy _)]
  dsimp only
  rw [if_pos rfl]
  obtain ⟨_,q1,q2⟩:=h.cons
  have hl1:rest (qk c) < rest c:=by rw [q1.len,h.len];simp
  obtain ⟨xs,k1,k2,k3,k4⟩:=qtx (rd:=fun c=>ofO (qg6 rec c)) (g:=tkB) h5 q1 (fun x hx=>qwt (h4 x hx) (qx hw (hm x hx))) fun x hx d s hd hs hdr hdn=>qvw (q6g IH (h4 x hx) (qx hw (hm x hx)) hd hs (by omega) (by have:=qbq (hm x hx);omega))
  obtain ⟨k5,k6⟩:=Prod.ext_iff.1 k1
  dsimp only at k5 k6
  unfold q1c letB
  rw [if_pos k6,k3.want (x:=[105,110]) (qfy _)]
  unfold letC
  rw [if_pos rfl]
  obtain ⟨_,q3,q4⟩:=k3.cons
  have hl3:rest (qk (qf7 (fun c=>ofO (qg6 rec c)) (qk c)).1) < rest c:=by rw [q3.len,h.len];simp only [List.length_append,List.length_cons];omega
  obtain ⟨y,j1,j2,j3,j4⟩:=IH _ _ r h6 (qx hw m1) q3 hr (by omega) (by rw [q4,k4,q2];omega)
  refine ⟨by dsimp only;rw [j1];rfl,?_,j3,j4.trans (q4.trans (k4.trans q2))⟩
  dsimp only
  rw [j1,k5]
  refine qde h0.symm h3.symm h1.symm ?_
  rw [h2]
  show (xs ++ [y]).map qf = _
  rw [List.map_append,List.map_append,k2]
  exact congrArg (_ ++ [·]) j2
 ·have hl:0 < n.kids.length:=by rw [h2];simp
  have m0:ekN n 0∈n.kids:=qe (by omega)
  have d0:=qbq m0
  have hm:∀ x∈n.kids.drop 1,x∈n.kids:=fun x hx=>List.mem_of_mem_drop hx
  simp only [h0,Int.reduceEq,if_false,if_true,List.cons_append,List.append_assoc] at h
  rw [h.leave_it (qkl rfl (by decide))]
  dsimp only
  rw [if_neg Bool.false_ne_true,h.leave_it (qkl rfl (by decide))]
  dsimp only
  rw [if_neg Bool.false_ne_true,h.take (x:=[99,97,115,101]) (qfy _)]
  dsimp only
  rw [if_pos rfl]
  obtain ⟨_,q1,q2⟩:=h.cons
  have hl1:rest (qk c) < rest c:=by rw [q1.len,h.len];simp
  obtain ⟨y,j1,j2,j3,j4⟩:=IH _ _ _ h4 (qx hw m0) q1 (qv5 (by decide)) (by omega) (by rw [q2];omega)
  unfold qvh
  rw [if_pos (by rw [j1];rfl),j1,j3.want (x:=[111,102]) (qfy _)]
  dsimp only [Option.getD_some]
  unfold q99
  rw [if_pos rfl]
  obtain ⟨_,q3,q4⟩:=j3.cons
  have hl3:rest (qk (rec (qk c)).1) < rest c:=by rw [q3.len,h.len];simp only [List.length_append,List.length_cons];omega
  obtain ⟨xs,k1,k2,k3,k4⟩:=qtx (rd:=qq6 rec) (g:=tkL) h6 q3 (fun x hx=>qwp (h5 x hx) (qx hw (hm x hx))) fun x hx d s hd hs hdr hdn=>qbbs IH (h5 x hx) (qx hw (hm x hx)) hd hs.1 (by omega) (by have:=qbq (hm x hx);omega)
  obtain ⟨k5,k6⟩:=Prod.ext_iff.1 k1
  dsimp only at k5 k6
  unfold qbf2
  refine ⟨k6,?_,k3,k4.trans (q4.trans (j4.trans q2))⟩
  dsimp only
  rw [k5]
  refine qde h0.symm h3.symm h1.symm ?_
  rw [h2]
  show qf y :: xs.map qf = qf _ :: _
  rw [k2,show qf y = qf (ekN n 0) from j2]
 ·have hl:n.kids.length = 3:=by rw [h2];rfl
  have m0:ekN n 0∈n.kids:=qe (by omega)
  have m1:ekN n 1∈n.kids:=qe (by omega)
  have m2:ekN n 2∈n.kids:=qe (by omega)
  have d0:=qbq m0
  have d1:=qbq m1
  have d2:=qbq m2
  simp only [h0,Int.reduceEq,if_false,if_true,List.cons_append,List.append_assoc] at h
  rw [h.leave_it (qkl rfl (by decide))]
  dsimp only
  rw [if_neg Bool.false_ne_true,h.leave_it (qkl rfl (by decide))]
  dsimp only
  rw [if_neg Bool.false_ne_true,h.leave_it (qkl rfl (by decide))]
  dsimp only
  rw [if_neg Bool.false_ne_true,h.take (x:=[105,102]) (qfy _)]
  dsimp only
  rw [if_pos rfl]
  obtain ⟨_,q1,q2⟩:=h.cons
  have hl1:rest (qk c) < rest c:=by rw [q1.len,h.len];simp
  obtain ⟨x,g1,g2,g3,g4⟩:=IH _ _ _ h4 (qx hw m0) q1 (qv5 (by decide)) (by omega) (by rw [q2];omega)
  have hl2:rest (rec (qk c)).1 < rest c:=by rw [g3.len,h.len];simp only [List.length_append,List.length_cons];omega
  obtain ⟨_,q3,q4⟩:=g3.cons
  have hl3:rest (qk (rec (qk c)).1) < rest c:=by rw [q3.len,h.len];simp only [List.length_append,List.length_cons];omega
  obtain ⟨y,k1,k2,k3,k4⟩:=IH _ _ _ h5 (qx hw m1) q3 (qv5 (by decide)) (by omega) (by rw [q4,g4,q2];omega)
  obtain ⟨_,q5,q6⟩:=k3.cons
  have hl5:rest (qk (rec (qk (rec (qk c)).1)).1) < rest c:=by rw [q5.len,h.len];simp only [List.length_append,List.length_cons];omega
  obtain ⟨z,j1,j2,j3,j4⟩:=IH _ _ r h6 (qx hw m2) q5 hr (by omega) (by rw [q6,k4,q4,g4,q2];omega)
  unfold ifsW
  have e0:ifsK (qk c) [] = (qk c,true):=if_pos rfl
  have e1:ifsK (rec (qk c)).1 [116,104,101,110] = (qk (rec (qk c)).1,true):=(if_neg (by decide)).trans (g3.want (x:=[116,104,101,110]) (qfy _))
  have e2:ifsK (rec (qk (rec (qk c)).1)).1 [101,108,115,101] = (qk (rec (qk (rec (qk c)).1)).1,true):=(if_neg (by decide)).trans (k3.want (x:=[101,108,115,101]) (qfy _))
  rw [qkr,e0]
  dsimp only
  rw [if_pos rfl,if_pos (by rw [g1];rfl),qkr,e1]
  dsimp only
  rw [if_pos rfl,if_pos (by rw [k1];rfl),qkr,e2]
  dsimp only
  rw [if_pos rfl,if_pos (by rw [j1];rfl),qkr,g1,k1,j1]
  refine ⟨rfl,qde h0.symm h3.symm h1.symm ?_,j3,j4.trans (q6.trans (k4.trans (q4.trans (g4.trans q2))))⟩
  rw [h2]
  show [qf x,qf y,qf z] = [qf _,qf _,qf _]
  rw [show qf x = qf (ekN n 0) from g2,show qf y = qf (ekN n 1) from k2,show qf z = qf (ekN n 2) from j2]
end
theorem q0t:∀ (f:Nat) (n:N) (c:K) (r:List T),exW n = true->(enc n).wf->Ah c (tkE n ++ r)->NoE r->rest c < f->c.nest + 2 * dp n≤201->Got c (qn2 f c) n r
 | 0,n,c,r,_,_,_,_,hf,_=>by omega
 | f + 1, n, c, r, ht, hw, h, hr, hf, hd => by
   have hp:=qfi n
   rw [qn2]
   obtain ⟨n1,n2,n3⟩:=h.enter (by omega)
   rw [if_pos n1]
   have hc1:rest (qi c).1 = rest c:=by rw [n2.len,h.len]
   obtain ⟨x,g1,g2,g3,g4⟩:=qu6 (q7c (rec:=qn2 f) (b:=f) (fun m d s h1 h2 h3 h4 h5 h6=>q0t f m d s h1 h2 h3 h4 h5 h6) ht hw n2 hr (by omega) (by omega))
   obtain ⟨l1,l2⟩:=Ah.leave (c:=(qir (qn2 f) (qi c).1).1) g3 (m:=c.nest) (g4.trans n3)
   exact ⟨x,g1,g2,l1,l2⟩
end Go.Proofs.Ytlmcofjcpadmiaa
