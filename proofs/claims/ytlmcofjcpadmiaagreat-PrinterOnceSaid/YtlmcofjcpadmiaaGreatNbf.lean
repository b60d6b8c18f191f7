/- Texts of this proof, joined. -/
import Derived.Test.YtlmcofjcpadmiaaGreatNbd
import Derived.Test.YtlmcofjcpadmiaaGreatNbe
import Derived.Test.YtlmcofjcpadmiaaGreatNba
set_option linter.unusedVariables false
set_option linter.unusedSimpArgs false

/- expressions that are written: their words -/
namespace Go.Proofs.YtlmcofjcpadmiaaGreat
open Go Go.RowKit Go.V

theorem qmb (n:N):ptB n = if n.kind = 31 then n.text ++ ([32,61,32] ++ (if 0 < n.kids.length then ptE (n.kids.getD 0 N0) else [])) else sgT n:=by
 obtain ⟨k,p,m,t,ks⟩:=n
 have ha:(((ks.map pba).zip ks).getD 0 q3).1.1 = if 0 < ks.length then ptE (ks.getD 0 N0) else []:=by
  by_cases h:0 < ks.length
  ·rw [if_pos h,q2i ks h]
  ·rw [if_neg h,qj2,List.getD_eq_getElem?_getD,List.getElem?_eq_none (by simpa using h)];rfl
 simp only [ptB,pba,qx0,ha,N.kind,N.text,N.kids]
 rfl
theorem qti (n:N):ptL n = ptP (n.kids.getD 0 N0) ++ ([32,45,62,32] ++ (if 1 < n.kids.length then ptE (n.kids.getD 1 N0) else [])):=by
 obtain ⟨k,p,m,t,ks⟩:=n
 have ha:(((ks.map pba).zip ks).getD 1 q3).1.1 = if 1 < ks.length then ptE (ks.getD 1 N0) else []:=by
  by_cases h:1 < ks.length
  ·rw [if_pos h,q2i ks h]
  ·rw [if_neg h,qj2,List.getD_eq_getElem?_getD,List.getElem?_eq_none (by simpa using h)];rfl
 simp only [ptL,pba,qx0,ha,N.kids]
 rfl
def tkE (n:N):List T:=(tokW (ptE n)).getD []
def tkB (n:N):List T:=(tokW (ptB n)).getD []
def tkL (n:N):List T:=(tokW (ptL n)).getD []
def vaT (n:N):T:=⟨1,0,0,n.text⟩
def wLet:List UInt8:=[108,101,116]
def wIn:List UInt8:=[105,110]
def qb1x:List UInt8:=[99,97,115,101]
def wOf:List UInt8:=[111,102]
def wIf:List UInt8:=[105,102]
def qca4:List UInt8:=[116,104,101,110]
def qb2v:List UInt8:=[101,108,115,101]
def semK (l:List (List T)):List T:=mkT [123] :: (qeo (mkT [59]) l ++ [mkT [125]])
def opK (n:N):List T:=cloK (qbi n || decide (n.kind = 24)) (tkE n)
def agK (n:N):List T:=cloK (qbi n) (tkE n)
def ekN (n:N) (i:Nat):N:=n.kids.getD i N0
def eitN (n:N):List N:=n.kids.take (n.kids.length - 1)
def tkE' (n:N):List T :=
 if n.kind = 23 then [intT n.num]
 else if n.kind = 24 then opK (ekN n 0) ++ agK (ekN n 1)
 else if n.kind = 25 then mkT [92] :: vaT n :: mkT arW :: tkE (ekN n 0)
 else if n.kind = 26 then rsT wLet :: (semK ((eitN n).map tkB) ++ rsT wIn :: tkE (ekN n (n.kids.length - 1)))
 else if n.kind = 27 then rsT qb1x :: (tkE (ekN n 0) ++ rsT wOf :: semK ((n.kids.drop 1).map tkL))
 else if n.kind = 28 then rsT wIf :: (tkE (ekN n 0) ++ rsT qca4 :: (tkE (ekN n 1) ++ rsT qb2v :: tkE (ekN n 2)))
 else [⟨if n.kind = 21 then 1 else 2,0,0,n.text⟩]
def tkB' (n:N):List T:=if n.kind = 31 then vaT n :: mkT [61] :: tkE (ekN n 0) else vaT n :: mkT [58,58] :: tkQ (ekN n 0)
def tkL' (n:N):List T:=tkP (ekN n 0) ++ mkT arW :: tkE (ekN n 1)
inductive ExQ (n:N):Prop
 | var (h:n.kind = 21) (h1:varW n.text = true) (h2:n.kids = []) (h3:n.num = 0)
 | con (h:n.kind = 22) (h1:conW n.text = true) (h2:n.kids = []) (h3:n.num = 0)
 | int (h:n.kind = 23) (h1:n.text = []) (h2:n.kids = []) (h3:0≤n.num)
 | app (h:n.kind = 24) (h1:n.text = []) (h2:n.kids = [ekN n 0,ekN n 1]) (h3:n.num = 0) (h4:exW (ekN n 0) = true) (h5:exW (ekN n 1) = true)
 | lam (h:n.kind = 25) (h1:varW n.text = true) (h2:n.kids = [ekN n 0]) (h3:n.num = 0) (h4:exW (ekN n 0) = true)
 | let_ (h:n.kind = 26) (h1:n.text = []) (h2:n.kids = eitN n ++ [ekN n (n.kids.length - 1)]) (h3:n.num = 0) (h4:∀ x∈eitN n,biW x = true∨sgW x = true) (h5:eitN n≠[]) (h6:exW (ekN n (n.kids.length - 1)) = true)
 | case (h:n.kind = 27) (h1:n.text = []) (h2:n.kids = ekN n 0 :: n.kids.drop 1) (h3:n.num = 0) (h4:exW (ekN n 0) = true) (h5:∀ x∈n.kids.drop 1,alW x = true) (h6:n.kids.drop 1≠[])
 | if_ (h:n.kind = 28) (h1:n.text = []) (h2:n.kids = [ekN n 0,ekN n 1,ekN n 2]) (h3:n.num = 0) (h4:exW (ekN n 0) = true) (h5:exW (ekN n 1) = true) (h6:exW (ekN n 2) = true)
theorem qbsy {l:List N} (h:l.length = 1):l = [l.getD 0 N0]:=by
 match l,h with
 | [a],_=>rfl
theorem q79 {l:List N} (h:l.length = 2):l = [l.getD 0 N0,l.getD 1 N0]:=by
 match l,h with
 | [a,b],_=>rfl
theorem qcff {l:List N} (h:l.length = 3):l = [l.getD 0 N0,l.getD 1 N0,l.getD 2 N0]:=by
 match l,h with
 | [a,b,c],_=>rfl
theorem qii {n:N} (h:exW n = true):ExQ n:=by
 rw [qpt] at h
 have h0:decide ((n.kids.length:Int) = 0) = true->n.kids = []:=fun e=>List.length_eq_zero_iff.1 (by have:=of_decide_eq_true e;omega)
 have hi:((n.kids.length:Int) - 1).toNat = n.kids.length - 1:=by omega
 by_cases h1:n.kind = 21
 ·rw [if_pos h1] at h
  simp only [Bool.and_eq_true] at h
  exact .var h1 h.1.2 (h0 h.2) (of_decide_eq_true h.1.1)
 rw [if_neg h1] at h
 by_cases h2:n.kind = 22
 ·rw [if_pos h2] at h
  simp only [Bool.and_eq_true] at h
  exact .con h2 h.1.2 (h0 h.2) (of_decide_eq_true h.1.1)
 rw [if_neg h2] at h
 by_cases h3:n.kind = 23
 ·rw [if_pos h3] at h
  simp only [Bool.and_eq_true] at h
  exact .int h3 (of_decide_eq_true h.1.1) (h0 h.2) (of_decide_eq_true h.1.2)
 rw [if_neg h3] at h
 by_cases h4:n.kind = 24
 ·rw [if_pos h4] at h
  simp only [Bool.and_eq_true,decide_eq_true_eq,List.all_eq_true] at h
  obtain ⟨⟨⟨a,b⟩,c⟩,d⟩:=h
  have hl:n.kids.length = 2:=by omega
  exact .app h4 a (q79 hl) b (d _ (qi (by omega))) (d _ (qi (by omega)))
 rw [if_neg h4] at h
 by_cases h5:n.kind = 25
 ·rw [if_pos h5] at h
  simp only [Bool.and_eq_true,decide_eq_true_eq] at h
  obtain ⟨⟨⟨a,b⟩,c⟩,d⟩:=h
  exact .lam h5 b (qbsy (by omega)) a d
 rw [if_neg h5] at h
 by_cases h6:n.kind = 26
 ·rw [if_pos h6] at h
  simp only [Bool.and_eq_true,decide_eq_true_eq,List.all_eq_true,Bool.or_eq_true,hi] at h
  obtain ⟨⟨⟨⟨a,b⟩,c⟩,d⟩,e⟩:=h
  have hl:n.kids.length - 1 < n.kids.length:=by omega
  refine .let_ h6 a ?_ b d (fun e=>?_) e
  ·rw [eitN,ekN,← qb2i hl,List.take_of_length_le (by omega)]
  ·have:=congrArg List.length e
   rw [eitN,List.length_take,List.length_nil] at this;omega
 rw [if_neg h6] at h
 by_cases h7:n.kind = 27
 ·rw [if_pos h7] at h
  simp only [Bool.and_eq_true,decide_eq_true_eq,List.all_eq_true] at h
  obtain ⟨⟨⟨⟨a,b⟩,c⟩,d⟩,e⟩:=h
  refine .case h7 a ?_ b d e (fun e=>?_)
  ·have:=q7w (l:=n.kids) (i:=0) (by omega)
   rwa [List.drop_zero] at this
  ·have:=congrArg List.length e
   rw [List.length_drop,List.length_nil] at this;omega
 rw [if_neg h7] at h
 by_cases h8:n.kind = 28
 ·rw [if_pos h8] at h
  simp only [Bool.and_eq_true,decide_eq_true_eq,List.all_eq_true] at h
  obtain ⟨⟨⟨a,b⟩,c⟩,d⟩:=h
  have hl:n.kids.length = 3:=by omega
  exact .if_ h8 a (qcff hl) b (d _ (qi (by omega))) (d _ (qi (by omega))) (d _ (qi (by omega)))
 ·rw [if_neg h8] at h;cases h
theorem qg4 {n:N} (h:sgW n = true):n.kind = 32∧n.num = 0∧varW n.text = true∧n.kids = [ekN n 0]∧quW (ekN n 0) = true:=by
 simp only [sgW,Bool.and_eq_true,decide_eq_true_eq] at h
 obtain ⟨⟨⟨⟨a,b⟩,c⟩,d⟩,e⟩:=h
 exact ⟨a,b,c,qbsy (by omega),e⟩
theorem qg3 {n:N} (h:biW n = true):n.kind = 31∧n.num = 0∧varW n.text = true∧n.kids = [ekN n 0]∧exW (ekN n 0) = true:=by
 rw [q4f] at h
 simp only [Bool.and_eq_true,decide_eq_true_eq] at h
 obtain ⟨⟨⟨⟨a,b⟩,c⟩,d⟩,e⟩:=h
 exact ⟨a,b,c,qbsy (by omega),e⟩
theorem qjv {n:N} (h:alW n = true):n.kind = 15∧n.text = []∧n.num = 0∧n.kids = [ekN n 0,ekN n 1]∧paW (ekN n 0) = true∧exW (ekN n 1) = true:=by
 rw [qbdv] at h
 simp only [Bool.and_eq_true,decide_eq_true_eq] at h
 obtain ⟨⟨⟨⟨⟨a,b⟩,c⟩,d⟩,e⟩,f⟩:=h
 exact ⟨a,b,c,q79 (by omega),e,f⟩
theorem qckt {n:N} (h:sgW n = true):Wd (ptB n) (tkB' n):=fun r hr=>by
 obtain ⟨h1,_,h3,h4,h5⟩:=qg4 h
 rw [qmb,tkB',if_neg (by omega),if_neg (by omega),sgT]
 simp only [List.append_assoc,List.cons_append,List.nil_append]
 rw [qoc h3 (qdu _),qch,qcim,qch]
 show ((tokW (quT (ekN n 0) ++ r)).map _).map _ = _
 rw [qckm h5 r hr]
 cases tokW r<;>simp [vaT]
theorem qbo0 (n:N):ptB n≠[]:=by
 rw [qmb]
 split
 ·simp
 ·rw [sgT];simp
theorem qcc8 (n:N):ptL n≠[]:=by rw [qti];simp
theorem qbuj {f:N->List UInt8} {s:List UInt8} (hf:∀ x,f x≠[]):∀ (l:List N),l≠[]->Lib.join (l.map f) s≠[]
 | [],h=>absurd rfl h
 | [x],_=>by rw [List.map_singleton,qm6];exact hf x
 | x :: y :: l, _ => by
   rw [List.map_cons,List.map_cons,qkw]
   intro h
   exact hf x (List.append_eq_nil_iff.1 h).1
theorem qcdp (r:List UInt8):tokW (smW ++ r) = (tokW r).map (mkT [59] :: ·):=by
 show tokW (59 :: 32 :: r) = _
 rw [qbo4,qch]
theorem qbqv {f:N->List UInt8} {g:N->List T} (hf:∀ x,f x≠[]) {l:List N} (hl:l≠[]) (h:∀ x∈l,Wd (f x) (g x)) (r:List UInt8):tokW (brW (Lib.join (l.map f) smW) ++ r) = (tokW r).map (semK (l.map g) ++ ·):=by
 have hj:=qv3 qcdp (fun r=>qbp2 _) l hl h
 rw [brW,if_neg (qbuj hf l hl)]
 simp only [List.append_assoc,List.cons_append,List.nil_append]
 rw [qbc1,qch,hj _ (qdu _),qch,qbdd]
 cases tokW r<;>simp [semK]
theorem qcfh (r:List UInt8):tokW (brW [] ++ r) = (tokW r).map (semK [] ++ ·):=by
 show tokW (123 :: 32 :: 125 :: r) = _
 rw [qbc1,qch,qbdd]
 cases tokW r<;>rfl
theorem qbio {r:List UInt8}:tokW (108 :: 101 :: 116 :: 32 :: r) = (tokW (32 :: r)).map (rsT wLet :: ·):=qho (w:=wLet) (by decide) (by decide) (by decide) (by decide) rfl (qdu _)
theorem qcch {r:List UInt8}:tokW (105 :: 110 :: 32 :: r) = (tokW (32 :: r)).map (rsT wIn :: ·):=qho (w:=wIn) (by decide) (by decide) (by decide) (by decide) rfl (qdu _)
theorem qbb2 {r:List UInt8}:tokW (99 :: 97 :: 115 :: 101 :: 32 :: r) = (tokW (32 :: r)).map (rsT qb1x :: ·):=qho (w:=qb1x) (by decide) (by decide) (by decide) (by decide) rfl (qdu _)
theorem qbsn {r:List UInt8}:tokW (111 :: 102 :: 32 :: r) = (tokW (32 :: r)).map (rsT wOf :: ·):=qho (w:=wOf) (by decide) (by decide) (by decide) (by decide) rfl (qdu _)
theorem qcbj {r:List UInt8}:tokW (105 :: 102 :: 32 :: r) = (tokW (32 :: r)).map (rsT wIf :: ·):=qho (w:=wIf) (by decide) (by decide) (by decide) (by decide) rfl (qdu _)
theorem qbc8 {r:List UInt8}:tokW (116 :: 104 :: 101 :: 110 :: 32 :: r) = (tokW (32 :: r)).map (rsT qca4 :: ·):=qho (w:=qca4) (by decide) (by decide) (by decide) (by decide) rfl (qdu _)
theorem qbed {r:List UInt8}:tokW (101 :: 108 :: 115 :: 101 :: 32 :: r) = (tokW (32 :: r)).map (rsT qb2v :: ·):=qho (w:=qb2v) (by decide) (by decide) (by decide) (by decide) rfl (qdu _)
set_option maxHeartbeats 1000000 in
theorem wdE:∀ n,(enc n).wf->(exW n = true->Wd (ptE n) (tkE n)∧tkE n = tkE' n)∧((biW n = true∨sgW n = true)->Wd (ptB n) (tkB n)∧tkB n = tkB' n)∧(alW n = true->Wd (ptL n) (tkL n)∧tkL n = tkL' n):=N.ind fun n ih hwf=>by
 have hx:∀ x∈n.kids,exW x = true->Wd (ptE x) (tkE x):=fun x hx h=>((ih x hx (qcf hwf hx)).1 h).1
 have hB:∀ x∈n.kids,biW x = true∨sgW x = true->Wd (ptB x) (tkB x):=fun x hx h=>((ih x hx (qcf hwf hx)).2.1 h).1
 have hL:∀ x∈n.kids,alW x = true->Wd (ptL x) (tkL x):=fun x hx h=>((ih x hx (qcf hwf hx)).2.2 h).1
 refine ⟨fun h=>?_,fun h=>?_,fun h=>?_⟩
 ·have hw:Wd (ptE n) (tkE' n):=by
   intro r hr
   rw [q1h,tkE']
   rcases qii h with ⟨h0,h1,h2,h3⟩ | ⟨h0,h1,h2,h3⟩ | ⟨h0,h1,h2,h3⟩ | ⟨h0,h1,h2,h3,h4,h5⟩ | ⟨h0,h1,h2,h3,h4⟩ | ⟨h0,h1,h2,h3,h4,h5,h6⟩ | ⟨h0,h1,h2,h3,h4,h5,h6⟩ | ⟨h0,h1,h2,h3,h4,h5,h6⟩
   ·simp only [h0,Int.reduceEq,if_false,if_true]
    rw [qoc h1 hr];cases tokW r<;>rfl
   ·simp only [h0,Int.reduceEq,if_false,if_true]
    rw [qmx h1 hr];cases tokW r<;>rfl
   ·simp only [h0,Int.reduceEq,if_false,if_true]
    rw [qbc4 h3 (qbo2 hwf) hr];cases tokW r<;>rfl
   ·have hl:n.kids.length = 2:=by rw [h2];rfl
    have m0:ekN n 0∈n.kids:=qi (by omega)
    have m1:ekN n 1∈n.kids:=qi (by omega)
    simp only [h0,Int.reduceEq,if_false,if_true,hl,show (0 < 2) = True by simp,show (1 < 2) = True by simp,List.append_assoc,List.cons_append]
    have w0:=qna (hx _ m0 h4) (qbi (ekN n 0) || decide ((ekN n 0).kind = 24))
    have w1:=qna (hx _ m1 h5) (qbi (ekN n 1))
    refine (w0 _ (qdu _)).trans ?_
    rw [qch]
    refine (congrArg _ (w1 r hr)).trans ?_
    cases tokW r<;>simp [opK,agK]
   ·have hl:n.kids.length = 1:=by rw [h2];rfl
    have m0:ekN n 0∈n.kids:=qi (by omega)
    simp only [h0,Int.reduceEq,if_false,if_true,hl,Nat.zero_lt_succ,List.append_assoc,List.cons_append,List.nil_append]
    rw [qcg4,qch,qoc h1 (qdu _),qch,qbdg,qch]
    refine (congrArg (fun o=>((Option.map _ o).map _).map _) (hx _ m0 h4 r hr)).trans ?_
    cases tokW r<;>simp [vaT,arW]
   ·have hl:0 < n.kids.length:=by rw [h2];simp
    have m1:ekN n (n.kids.length - 1)∈n.kids:=qi (by omega)
    have hm:∀ x∈eitN n,x∈n.kids:=fun x hx=>List.mem_of_mem_take hx
    simp only [h0,Int.reduceEq,if_false,if_true,hl,List.append_assoc,List.cons_append,List.nil_append]
    rw [qbio,qch]
    refine (congrArg _ (qbqv qbo0 h5 (fun x hx=>hB x (hm x hx) (h4 x hx)) _)).trans ?_
    rw [qch,qcch,qch]
    refine (congrArg (fun o=>((Option.map _ o).map _).map _) (hx _ m1 h6 r hr)).trans ?_
    cases tokW r<;>simp
   ·have hl:0 < n.kids.length:=by rw [h2];simp
    have m0:ekN n 0∈n.kids:=qi (by omega)
    have hm:∀ x∈n.kids.drop 1,x∈n.kids:=fun x hx=>List.mem_of_mem_drop hx
    simp only [h0,Int.reduceEq,if_false,if_true,hl,List.append_assoc,List.cons_append,List.nil_append]
    rw [qbb2,qch]
    refine (congrArg _ (hx _ m0 h4 _ (qdu _))).trans ?_
    rw [qch,qbsn,qch]
    refine (congrArg (fun o=>((Option.map _ o).map _).map _) (qbqv qcc8 h6 (fun x hx=>hL x (hm x hx) (h5 x hx)) r)).trans ?_
    cases tokW r<;>simp
   ·have hl:n.kids.length = 3:=by rw [h2];rfl
    have m0:ekN n 0∈n.kids:=qi (by omega)
    have m1:ekN n 1∈n.kids:=qi (by omega)
    have m2:ekN n 2∈n.kids:=qi (by omega)
    have e0:(0 < 3) = True:=by simp
    have e1:(1 < 3) = True:=by simp
    have e2:(2 < 3) = True:=by simp
    simp only [h0,Int.reduceEq,if_false,if_true,hl,e0,e1,e2,List.append_assoc,List.cons_append,List.nil_append]
    rw [qcbj,qch]
    refine (congrArg _ (hx _ m0 h4 _ (qdu _))).trans ?_
    rw [qch,qbc8,qch]
    refine (congrArg (fun o=>((Option.map _ o).map _).map _) (hx _ m1 h5 _ (qdu _))).trans ?_
    rw [qch,qbed,qch]
    refine (congrArg (fun o=>((((Option.map _ o).map _).map _).map _).map _) (hx _ m2 h6 r hr)).trans ?_
    cases tokW r<;>simp
  have he:tkE n = tkE' n:=by rw [tkE,hw.get];rfl
  exact ⟨by rw [he];exact hw,he⟩
 ·have hw:Wd (ptB n) (tkB' n):=by
   rcases h with h | h
   ·intro r hr
    obtain ⟨h1,_,h3,h4,h5⟩:=qg3 h
    have hl:n.kids.length = 1:=by rw [h4];rfl
    have m0:ekN n 0∈n.kids:=qi (by omega)
    rw [qmb,tkB',if_pos h1,if_pos h1]
    simp only [hl,Nat.zero_lt_succ,if_true,List.append_assoc,List.cons_append,List.nil_append]
    rw [qoc h3 (qdu _),qch,qbox]
    refine (congrArg (fun o=>(Option.map _ o).map _) (hx _ m0 h5 r hr)).trans ?_
    cases tokW r<;>simp [vaT]
   ·exact qckt h
  have he:tkB n = tkB' n:=by rw [tkB,hw.get];rfl
  exact ⟨by rw [he];exact hw,he⟩
 ·have hw:Wd (ptL n) (tkL' n):=by
   intro r hr
   obtain ⟨_,_,_,h4,h5,h6⟩:=qjv h
   have hl:n.kids.length = 2:=by rw [h4];rfl
   have m0:ekN n 0∈n.kids:=qi (by omega)
   have m1:ekN n 1∈n.kids:=qi (by omega)
   rw [qti,tkL']
   simp only [hl,show (1 < 2) = True by simp,if_true,List.append_assoc,List.cons_append,List.nil_append]
   refine ((wdP _ h5 (qcf hwf m0)).1 _ (qdu _)).trans ?_
   rw [qch,qbdg,qch]
   refine (congrArg (fun o=>(Option.map _ o).map _) (hx _ m1 h6 r hr)).trans ?_
   cases tokW r<;>simp [arW]
  have he:tkL n = tkL' n:=by rw [tkL,hw.get];rfl
  exact ⟨by rw [he];exact hw,he⟩

theorem ne_ {a b:Int} (h:decide (a = b) = false:=by rfl):a≠b:=of_decide_eq_false h
/-! what is skipped -/
theorem qcb3:∀ n,paW n = true->(enc n).wf->Bal0 (tkP n):=N.ind fun n ih ht hw=>by
 rw [(wdP n ht hw).2,tkP']
 rcases qg6 ht with ⟨h,h1,h2,h3⟩ | ⟨h,h1,h2,h3⟩ | ⟨h,h1,h2,h3⟩ | ⟨h,h1,h2,h3⟩
 ·rw [if_neg (by omega),if_neg (by omega),h2]
  exact qf9 (by rw [qkn,if_pos h];exact ne_) (by rw [qkn,if_pos h];exact ne_)
 ·rw [if_pos h]
  exact ⟨qki (by decide) (by decide),fun r=>by rw [List.singleton_append,qcw,if_neg (by decide),if_neg (by decide),if_neg (by decide),if_neg (by decide),if_neg (by decide)]⟩
 ·rw [if_neg (by omega),if_pos h]
  exact qf9 (by show (3:Int)≠4;decide) (by show (3:Int)≠5;decide)
 ·rw [if_neg (by omega),if_neg (by omega)]
  exact (qf9 (t:=qkn n) (by rw [qkn,if_neg (by omega)];exact ne_) (by rw [qkn,if_neg (by omega)];exact ne_)).app (qw0 n.kids fun x hx=>qtf (ih x hx (h2 x hx) (qcf hw hx)) _)
theorem qd2 {t:T} {ts:List T} (h:Bal [t]) (k:Bal ts):Bal (t :: ts):=h.app k
theorem qbbn (n:N):Bal [vaT n]:=(qf9 (t:=vaT n) (by show (1:Int)≠4;decide) (by show (1:Int)≠5;decide)).1
theorem qbbb {ts:List T} (h:Bal ts) (b:Bool):Bal (cloK b ts):=by
 cases b with
 | true=>exact h
 | false =>
  intro x r d hd
  have e:cloK false ts ++ r = mkT [40] :: (ts ++ mkT [41] :: r):=by simp [cloK]
  rw [e];exact qvq (by decide) (by decide) (by decide) h x r d (by omega)
theorem qbbf {l:List (List T)} (h:∀ a∈l,Bal a):Bal (semK l):=fun x r d hd=>by
 have e:semK l ++ r = mkT [123] :: (qeo (mkT [59]) l ++ mkT [125] :: r):=by simp [semK]
 rw [e];exact qvq (by decide) (by decide) (by decide) (qnu (qki (by decide) (by decide)) l h) x r d (by omega)
theorem qcdo {l:List N} (h:∀ x∈l,prW x = true):Bal (ctK l):=by
 rw [ctK]
 split
 ·exact bal_nil.1
 ·refine Bal.app (qbbb (qnu (qki (by decide) (by decide)) _ fun a ha=>?_) _) (qki (by decide) (by decide))
  obtain ⟨x,hx,rfl⟩:=List.mem_map.1 ha
  exact (qbd4 (h x hx)).1
theorem qcfz {n:N} (h:quW n = true):Bal (tkQ n):=by
 obtain ⟨_,_,_,_,h5,h6⟩:=qnx h
 exact (qcdo h5).app (qw5 _ h6).1
theorem balE:∀ n,(enc n).wf->(exW n = true->Bal (tkE n))∧((biW n = true∨sgW n = true)->Bal (tkB n))∧(alW n = true->Bal (tkL n)):=N.ind fun n ih hwf=>by
 have hx:∀ x∈n.kids,exW x = true->Bal (tkE x):=fun x hx h=>(ih x hx (qcf hwf hx)).1 h
 refine ⟨fun h=>?_,fun h=>?_,fun h=>?_⟩
 ·rw [((wdE n hwf).1 h).2,tkE']
  rcases qii h with ⟨h0,h1,h2,h3⟩ | ⟨h0,h1,h2,h3⟩ | ⟨h0,h1,h2,h3⟩ | ⟨h0,h1,h2,h3,h4,h5⟩ | ⟨h0,h1,h2,h3,h4⟩ | ⟨h0,h1,h2,h3,h4,h5,h6⟩ | ⟨h0,h1,h2,h3,h4,h5,h6⟩ | ⟨h0,h1,h2,h3,h4,h5,h6⟩
  ·simp only [h0,Int.reduceEq,if_false,if_true]
   exact (qf9 ne_ ne_).1
  ·simp only [h0,Int.reduceEq,if_false,if_true]
   exact (qf9 ne_ ne_).1
  ·simp only [h0,Int.reduceEq,if_false,if_true]
   exact (qf9 (by show (3:Int)≠4;decide) (by show (3:Int)≠5;decide)).1
  ·simp only [h0,Int.reduceEq,if_false,if_true]
   have hl:n.kids.length = 2:=by rw [h2];rfl
   exact (qbbb (hx _ (qi (by omega)) h4) _).app (qbbb (hx _ (qi (by omega)) h5) _)
  ·simp only [h0,Int.reduceEq,if_false,if_true]
   have hl:n.kids.length = 1:=by rw [h2];rfl
   exact qd2 (qki (by decide) (by decide)) (qd2 (qbbn n) (qd2 (qki (by decide) (by decide)) (hx _ (qi (by omega)) h4)))
  ·simp only [h0,Int.reduceEq,if_false,if_true]
   have hl:0 < n.kids.length:=by rw [h2];simp
   refine qd2 (qs9 _ (by decide) (by decide)) ((qbbf fun a ha=>?_).app (qd2 (qs9 _ (by decide) (by decide)) (hx _ (qi (by omega)) h6)))
   obtain ⟨x,hxm,rfl⟩:=List.mem_map.1 ha
   have hxk:=List.mem_of_mem_take hxm
   exact (ih x hxk (qcf hwf hxk)).2.1 (h4 x hxm)
  ·simp only [h0,Int.reduceEq,if_false,if_true]
   have hl:0 < n.kids.length:=by rw [h2];simp
   refine qd2 (qs9 _ (by decide) (by decide)) ((hx _ (qi (by omega)) h4).app (qd2 (qs9 _ (by decide) (by decide)) (qbbf fun a ha=>?_)))
   obtain ⟨x,hxm,rfl⟩:=List.mem_map.1 ha
   have hxk:=List.mem_of_mem_drop hxm
   exact (ih x hxk (qcf hwf hxk)).2.2 (h5 x hxm)
  ·simp only [h0,Int.reduceEq,if_false,if_true]
   have hl:n.kids.length = 3:=by rw [h2];rfl
   exact qd2 (qs9 _ (by decide) (by decide)) ((hx _ (qi (by omega)) h4).app (qd2 (qs9 _ (by decide) (by decide)) ((hx _ (qi (by omega)) h5).app (qd2 (qs9 _ (by decide) (by decide)) (hx _ (qi (by omega)) h6)))))
 ·rw [((wdE n hwf).2.1 h).2,tkB']
  rcases h with h | h
  ·obtain ⟨h1,_,h3,h4,h5⟩:=qg3 h
   have hl:n.kids.length = 1:=by rw [h4];rfl
   rw [if_pos h1]
   exact qd2 (qbbn n) (qd2 (qki (by decide) (by decide)) (hx _ (qi (by omega)) h5))
  ·obtain ⟨h1,_,h3,h4,h5⟩:=qg4 h
   rw [if_neg (by omega)]
   exact qd2 (qbbn n) (qd2 (qki (by decide) (by decide)) (qcfz h5))
 ·rw [((wdE n hwf).2.2 h).2,tkL']
  obtain ⟨_,_,_,h4,h5,h6⟩:=qjv h
  have hl:n.kids.length = 2:=by rw [h4];rfl
  exact (qcb3 _ h5 (qcf hwf (qi (by omega)))).1.app (qd2 (qki (by decide) (by decide)) (hx _ (qi (by omega)) h6))
/-! what is read -/
def NoE (r:List T):Prop:=∀ t s,r = t :: s->t.kind≠1∧t.kind≠2∧t.kind≠3∧qcg t [40] = false
theorem qbc5 {w:List UInt8} {s:List T} (h:w≠[40]):NoE (mkT w :: s):=fun t s' e=>by
 obtain ⟨rfl,_⟩:=List.cons.inj e
 exact ⟨ne_,ne_,ne_,by simp [qcg,mkT,h]⟩
theorem qbey {w:List UInt8} {s:List T} (h:w≠[40]):NoE (rsT w :: s):=fun t s' e=>by
 obtain ⟨rfl,_⟩:=List.cons.inj e
 exact ⟨ne_,ne_,ne_,by simp [qcg,rsT,h]⟩
theorem NoE.A {r:List T} (h:NoE r):NoA r:=fun t s e=>⟨(h t s e).1,(h t s e).2.1,(h t s e).2.2.2⟩
theorem qhi (w:List UInt8):qcg (rsT w) w = true:=by simp [qcg,rsT]
theorem qb04 {c:K} {r:List T} (h:Ah c r) (hr:NoE r):begE c = false:=by
 unfold begE qgm
 cases r with
 | nil =>
   obtain ⟨e1,e2⟩:=Ah.nil h
   rw [e1,e2];rfl
 | cons t s =>
   obtain ⟨h1,h2,h3,h5⟩:=hr t s rfl
   rw [h.kind,h.is,if_neg h1,if_neg h2,if_neg h3,h5];rfl
theorem qbq3 {c:K} {t:T} {r:List T} (h:Ah c (t :: r)) (ht:t.kind = 1∨t.kind = 2∨t.kind = 3∨qcg t [40] = true):begE c = true:=by
 unfold begE qgm
 rw [h.kind,h.is]
 by_cases h1:t.kind = 1
 ·rw [if_pos h1];rfl
 rw [if_neg h1]
 by_cases h2:t.kind = 2
 ·rw [if_pos h2];rfl
 rw [if_neg h2]
 by_cases h3:t.kind = 3
 ·rw [if_pos h3];rfl
 rw [if_neg h3]
 rcases ht with e | e | e | e
 ·exact absurd e h1
 ·exact absurd e h2
 ·exact absurd e h3
 ·rw [e];simp
theorem q23 {n:N} (h:exW n = true) (hl:n.kids = []):∃ t,tkE' n = [t]∧(t.kind = 1∨t.kind = 2∨t.kind = 3)∧n.kind≠24∧∀ c r,Ah c (t :: r)->∃ x,qgm c = some x∧NS x n:=by
 rcases qii h with ⟨h0,h1,h2,h3⟩ | ⟨h0,h1,h2,h3⟩ | ⟨h0,h1,h2,h3⟩ | ⟨h0,h1,h2,h3,h4,h5⟩ | ⟨h0,h1,h2,h3,h4⟩ | ⟨h0,h1,h2,h3,h4,h5,h6⟩ | ⟨h0,h1,h2,h3,h4,h5,h6⟩ | ⟨h0,h1,h2,h3,h4,h5,h6⟩
 ·refine ⟨⟨1,0,0,n.text⟩,by simp only [tkE',h0,Int.reduceEq,if_false,if_true],.inl rfl,by omega,fun c r hc=>?_⟩
  refine ⟨qgr c 21 [],by unfold qgm;rw [if_pos hc.kind],qfw h0.symm h3.symm hc.text (by rw [hl];rfl)⟩
 ·refine ⟨⟨2,0,0,n.text⟩,by simp only [tkE',h0,Int.reduceEq,if_false,if_true],.inr (.inl rfl),by omega,fun c r hc=>?_⟩
  have hk:=hc.kind
  refine ⟨qgr c 22 [],by unfold qgm;rw [if_neg (by rw [hk];exact ne_),if_pos hk],qfw h0.symm h3.symm hc.text (by rw [hl];rfl)⟩
 ·refine ⟨intT n.num,by simp only [tkE',h0,Int.reduceEq,if_false,if_true],.inr (.inr rfl),by omega,fun c r hc=>?_⟩
  have hk:=hc.kind
  refine ⟨.mk 23 (qp c).pos (qp c).num [] [],by unfold qgm;rw [if_neg (by rw [hk];exact ne_),if_neg (by rw [hk];exact ne_),if_pos (by rw [hk];rfl)],qfw h0.symm hc.num h1.symm (by rw [hl];rfl)⟩
 ·rw [hl] at h2;cases h2
 ·rw [hl] at h2;cases h2
 ·rw [hl] at h2;exact absurd h2.symm (by simp)
 ·rw [hl] at h2;cases h2
 ·rw [hl] at h2;cases h2
section
variable {rec:K->K×Option N}
theorem qbpj {n:N} (ht:exW n = true) (hw:(enc n).wf) {b:Bool} (hb:b = true->n.kids = []) {c:K} {r:List T} (h:Ah c (cloK b (tkE n) ++ r)) (hn:b = false->c.nest < 200)
 (ih:b = false->∀ d,Ah d (tkE n ++ mkT [41] :: r)->rest d < rest c->d.nest = c.nest + 1->Got d (rec d) n (mkT [41] :: r)):Got c (qu rec c) n r:=by
 unfold qu
 cases hbb:b with
 | true =>
   obtain ⟨t,e,_,_,hleaf⟩:=q23 ht (hb hbb)
   rw [hbb,cloK,if_pos rfl,((wdE n hw).1 ht).2,e,List.singleton_append] at h
   obtain ⟨x,e1,e2⟩:=hleaf c r h
   obtain ⟨_,h2,h3⟩:=h.cons
   rw [if_pos (by rw [e1];rfl)]
   exact ⟨x,e1,e2,h2,h3⟩
 | false =>
   rw [hbb,cloK,if_neg Bool.false_ne_true,List.cons_append,List.append_assoc,List.singleton_append] at h
   have hki:=h.kind
   have hlf:qgm c = none:=by
    unfold qgm
    rw [hki,if_neg (by decide),if_neg (by decide),if_neg (by decide)]
   rw [if_neg (by rw [hlf];decide),if_pos (by rw [h.is];exact qcb _)]
   obtain ⟨n1,n2,n3⟩:=h.enter (hn hbb)
   rw [if_pos n1]
   obtain ⟨_,q1,q2⟩:=n2.cons
   have hlt:rest (qg (qb c).1) < rest c:=by rw [q1.len,h.len];simp
   obtain ⟨x,g1,g2,g3,g4⟩:=ih hbb _ q1 hlt (q2.trans n3)
   rw [if_pos (by rw [g1];rfl),g3.want (qcb _)]
   dsimp only
   rw [if_pos rfl]
   obtain ⟨_,q3,q4⟩:=g3.cons
   obtain ⟨l1,l2⟩:=q3.leave (m:=c.nest) (by rw [q4,g4,q2,n3])
   exact ⟨x,g1,g2,l1,l2⟩
theorem q64 {n:N} (ht:exW n = true) (hw:(enc n).wf) {b:Bool} (hb:b = true->n.kids = []):∃ t s,cloK b (tkE n) = t :: s∧(t.kind = 1∨t.kind = 2∨t.kind = 3∨qcg t [40] = true):=by
 cases hbb:b with
 | true =>
   obtain ⟨t,e,h1,_,_⟩:=q23 ht (hb hbb)
   refine ⟨t,[],by rw [cloK,if_pos rfl,((wdE n hw).1 ht).2,e],?_⟩
   rcases h1 with h | h | h
   ·exact .inl h
   ·exact .inr (.inl h)
   ·exact .inr (.inr (.inl h))
 | false=>exact ⟨_,_,by rw [cloK,if_neg Bool.false_ne_true],.inr (.inr (.inr (qcb _)))⟩
theorem qyx (f:Nat) (c:K) (n:N):qdm rec (f + 1) c n = if begE c = true then if (qu rec c).2.isSome = true then qdm rec f (qu rec c).1 (appN n ((qu rec c).2.getD N0)) else ((qu rec c).1,appN n ((qu rec c).2.getD N0),false) else (c,n,true):=by rw [qdm]
theorem qbkp:∀ (n:N),exW n = true->(enc n).wf->∀ (c:K) (r:List T),Ah c (opK n ++ r)->(n.kids≠[]->c.nest + 2 * dp n≤202) →
 (∀ x:N,x.kids≠[]->dp x + (if n.kind = 24 then 1 else 0)≤dp n->exW x = true->(enc x).wf->∀ d s,Ah d (tkE x ++ mkT [41] :: s)->rest d < rest c->d.nest = c.nest + 1->Got d (rec d) x (mkT [41] :: s)) →
 ∃ x c' g,NS x n∧Ah c' r∧c'.nest = c.nest∧rest c' + 1≤g∧rest c' < rest c∧qe1 rec c = qdm rec g c' x:=N.ind fun n ihn ht hw c r h hn ih=>by
 by_cases hk:n.kind = 24
 ·have hk':=hk
  obtain ⟨h1,h2,h3,h4,h5⟩:n.text = []∧n.kids = [ekN n 0,ekN n 1]∧n.num = 0∧exW (ekN n 0) = true∧exW (ekN n 1) = true:=by
   rcases qii ht with ⟨h,_⟩ | ⟨h,_⟩ | ⟨h,_⟩ | ⟨h,h1,h2,h3,h4,h5⟩ | ⟨h,_⟩ | ⟨h,_⟩ | ⟨h,_⟩ | ⟨h,_⟩<;>first | omega | exact ⟨h1,h2,h3,h4,h5⟩
  have hl:n.kids.length = 2:=by rw [h2];rfl
  have m0:ekN n 0∈n.kids:=qi (by omega)
  have m1:ekN n 1∈n.kids:=qi (by omega)
  have hne:n.kids≠[]:=by rw [h2];simp
  have hnest:=hn hne
  have d0:=qcx m0
  have d1:=qcx m1
  have hto:opK n = opK (ekN n 0) ++ agK (ekN n 1):=by
   rw [opK,decide_eq_true hk,Bool.or_true,cloK,if_pos rfl,((wdE n hw).1 ht).2]
   simp only [tkE',hk,Int.reduceEq,if_false,if_true]
  rw [hto,List.append_assoc] at h
  have hb1:qbi (ekN n 1) = true->(ekN n 1).kids = []:=fun e=>of_decide_eq_true e
  obtain ⟨x,c',g,s1,s2,s3,s4,s5,s6⟩:=ihn _ m0 h4 (qcf hw m0) c _ h (fun _=>by omega) fun x hx hdx hxe hxw d s hd hdr hdn=>ih x hx (by rw [if_pos hk];omega) hxe hxw d s hd hdr hdn
  obtain ⟨t,u,e1,e2⟩:=q64 h5 (qcf hw m1) hb1
  have hbeg:begE c' = true:=by
   have s2':=s2
   rw [agK,e1,List.cons_append] at s2'
   exact qbq3 s2' e2
  obtain ⟨y,g1,g2,g3,g4⟩:=qbpj (rec:=rec) h5 (qcf hw m1) hb1 (c:=c') (r:=r) s2 (fun hlf=>by
   have:1≤dp (ekN n 1):=qk2 _
   omega) fun hlf d hd hdr hdn=>ih _ (fun e=>by rw [qbi,decide_eq_true e] at hlf;cases hlf) (by rw [if_pos hk];omega) h5 (qcf hw m1) d r hd (by omega) (by rw [hdn,s3])
  have hlt:rest (qu rec c').1 < rest c':=by
   rw [g3.len,s2.len,agK,e1];simp only [List.length_append,List.length_cons];omega
  obtain ⟨g',rfl⟩:∃ g',g = g' + 1:=⟨g - 1,by omega⟩
  rw [qyx,if_pos hbeg,if_pos (by rw [g1];rfl),g1] at s6
  refine ⟨appN x y,_,g',qfw hk.symm h3.symm h1.symm ?_,g3,g4.trans s3,by omega,by omega,s6⟩
  rw [h2]
  show [qk x,qk y] = [qk _,qk _]
  rw [show qk x = qk (ekN n 0) from s1,show qk y = qk (ekN n 1) from g2]
 ·have hb:qbi n = true->n.kids = []:=fun e=>of_decide_eq_true e
  rw [opK,decide_eq_false hk,Bool.or_false] at h
  obtain ⟨y,g1,g2,g3,g4⟩:=qbpj (rec:=rec) ht hw hb h (fun hlf=>by
   have hne:n.kids≠[]:=fun e=>by rw [qbi,decide_eq_true e] at hlf;cases hlf
   have:=hn hne
   obtain ⟨x,l,e⟩:∃ x l,n.kids = x :: l:=by
    cases hq:n.kids with
    | nil=>exact absurd hq hne
    | cons x l=>exact ⟨x,l,rfl⟩
   have h1:=qcx (n:=n) (x:=x) (by rw [e];simp)
   have h2:=qk2 x
   omega) fun hlf d hd hdr hdn=>ih n (fun e=>by rw [qbi,decide_eq_true e] at hlf;cases hlf) (by rw [if_neg hk];omega) ht hw d r hd hdr hdn
  obtain ⟨t,u,e1,e2⟩:=q64 ht hw hb
  have hlt:rest (qu rec c).1 < rest c:=by
   rw [g3.len,h.len,e1];simp only [List.length_append,List.length_cons];omega
  refine ⟨y,_,rest (qu rec c).1 + 1,g2,g3,g4,Nat.le_refl _,hlt,?_⟩
  unfold qe1
  rw [if_pos (by rw [g1];rfl),g1];rfl
end

def Got3 (c:K) (p:R3) (n:N) (r:List T):Prop:=p.2.2 = true∧NS p.2.1 n∧Ah p.1 r∧p.1.nest = c.nest
theorem qbgm {c:K} {p:R3} {n:N} {r:List T} (h:Got3 c p n r):Got c (toO p) n r:=⟨p.2.1,by rw [toO,if_pos h.1],h.2.1,h.2.2.1,h.2.2.2⟩
theorem qsc {c:K} {p:K×Option N} {n:N} {r:List T} (h:Got c p n r):Got3 c (ofO p) n r:=by
 obtain ⟨x,h1,h2,h3,h4⟩:=h
 exact ⟨by rw [ofO,h1];rfl,by rw [ofO,h1];exact h2,h3,h4⟩
def StS (r:List T):Prop:=NoE r∧NoR r∧qcw [61,62] r 0 = false
theorem q6s (s:List T):StS (mkT [59] :: s):=⟨qbc5 (by decide),qph (by decide),by rw [qcw,if_neg (by decide),if_neg (by decide),if_neg (by decide),if_pos (by decide)]⟩
theorem q3g (s:List T):StS (mkT [125] :: s):=⟨qbc5 (by decide),qph (by decide),by rw [qcw,if_neg (by decide),if_pos (by decide),if_pos (by decide)]⟩
theorem q5f {rd:K->R3} {g:N->List T} {c0:K}:∀ (l:List N) (f:Nat) (c:K) (acc:List N) (r:List T),l≠[] →
 (∀ x∈l,∀ d s,Ah d (g x ++ s)->StS s->rest d≤rest c0->d.nest = c0.nest->Got3 d (rd d) x s)->(∀ x∈l,∃ t s,g x = t :: s∧qcg t [125] = false) →
 Ah c (qeo (mkT [59]) (l.map g) ++ mkT [125] :: r)->l.length < f->rest c≤rest c0->c.nest = c0.nest →
 ∃ xs,(qbn rd f c acc).2 = (acc ++ xs,true)∧xs.map qk = l.map qk∧Ah (qbn rd f c acc).1 r∧(qbn rd f c acc).1.nest = c.nest
 | [],_,_,_,_,h,_,_,_,_,_,_=>absurd rfl h
 | l,0,_,_,_,_,_,_,_,hf,_,_=>by omega
 | [x], f + 1, c, acc, r, _, hrd, hg, h, _, hc, hn => by
   rw [qbn]
   obtain ⟨g1,g2,g3,g4⟩:=hrd x (by simp) c _ h (q3g r) hc hn
   have hno:=g3.leave_it (x:=[59]) (by decide)
   rw [if_pos g1,hno]
   dsimp only
   rw [Bool.false_and,if_neg Bool.false_ne_true,g3.want (qcb _)]
   obtain ⟨_,q1,q2⟩:=g3.cons
   exact ⟨[(rd c).2.1],rfl,congrArg (· :: []) g2,q1,q2.trans g4⟩
 | x :: y :: l, f + 1, c, acc, r, _, hrd, hg, h, hf, hc, hn => by
   rw [qbn]
   rw [List.map_cons,List.map_cons,qeo,← List.map_cons,List.append_assoc,List.cons_append] at h
   obtain ⟨g1,g2,g3,g4⟩:=hrd x (by simp) c _ h (q6s _) hc hn
   have hyes:=g3.take (x:=[59]) (qcb _)
   obtain ⟨_,q1,q2⟩:=g3.cons
   have hne:isK (qg (rd c).1) [125] = false:=by
    obtain ⟨t,s,e1,e2⟩:=hg y (by simp)
    have hj:∃ u,qeo (mkT [59]) ((y :: l).map g) = t :: u:=by
     cases l with
     | nil=>exact ⟨s,by rw [List.map_singleton,qeo,e1]⟩
     | cons z l=>exact ⟨_,by rw [List.map_cons,List.map_cons,qeo,e1,List.cons_append]⟩
    obtain ⟨u,e3⟩:=hj
    have q1':=q1
    rw [e3,List.cons_append] at q1'
    rw [q1'.is,e2]
   rw [if_pos g1,hyes]
   dsimp only
   rw [hne,Bool.not_false,Bool.and_true,if_pos rfl]
   have hlt:rest (qg (rd c).1)≤rest c:=by rw [q1.len,h.len];simp only [List.length_append,List.length_cons];omega
   obtain ⟨xs,k1,k2,k3,k4⟩:=q5f (y :: l) f _ (acc ++ [(rd c).2.1]) r (by simp) (fun z hz=>hrd z (by simp at hz ⊢;exact .inr hz)) (fun z hz=>hg z (by simp at hz ⊢;exact .inr hz)) q1 (by simp at hf ⊢;omega) (by omega) (by rw [q2,g4,hn])
   refine ⟨(rd c).2.1 :: xs,by rw [k1];simp,?_,k3,k4.trans (q2.trans g4)⟩
   rw [List.map_cons,List.map_cons,k2];exact congrArg (· :: _) g2
theorem qbjd {t:T} (l:List (List T)):l.length≤(qeo t l).length + 1:=by
 induction l with
 | nil=>simp
 | cons a m ih => cases m with
   | nil=>simp
   | cons b m =>
     rw [qeo]
     simp only [List.length_append,List.length_cons] at ih ⊢
     omega
theorem q98 {rd:K->R3} {g:N->List T} {l:List N} (hl:l≠[]) {c:K} {r:List T} (h:Ah c (semK (l.map g) ++ r)) (hg:∀ x∈l,∃ t s,g x = t :: s∧qcg t [125] = false)
 (hrd:∀ x∈l,∀ d s,Ah d (g x ++ s)->StS s->rest d < rest c->d.nest = c.nest->Got3 d (rd d) x s) :
 ∃ xs,(q8 rd c).2 = (xs,true)∧xs.map qk = l.map qk∧Ah (q8 rd c).1 r∧(q8 rd c).1.nest = c.nest:=by
 rw [semK,List.cons_append,List.append_assoc,List.singleton_append] at h
 obtain ⟨_,q1,q2⟩:=h.cons
 have hlt:rest (qg c) < rest c:=by rw [q1.len,h.len];simp
 unfold q8
 rw [h.want (qcb _)]
 dsimp only
 rw [if_pos rfl]
 have hfl:l.length < rest (qg c) + 1:=by
  have:=qbjd (t:=mkT [59]) (l.map g)
  rw [List.length_map] at this
  rw [q1.len];simp only [List.length_append,List.length_cons];omega
 obtain ⟨xs,k1,k2,k3,k4⟩:=q5f (rd:=rd) (g:=g) (c0:=qg c) l (rest (qg c) + 1) (qg c) [] r hl (fun x hx d s hd hs hr hn=>hrd x hx d s hd hs (by omega) (by rw [hn,q2])) hg q1 hfl (Nat.le_refl _) rfl
 rw [List.nil_append] at k1
 exact ⟨xs,k1,k2,k3,k4.trans q2⟩
section
variable {rec:K->K×Option N} {b:Nat} (IH:∀ (m:N) (d:K) (s:List T),exW m = true->(enc m).wf->Ah d (tkE m ++ s)->NoE s->rest d < b->d.nest + 2 * dp m≤201->Got d (rec d) m s)
include IH
theorem q6r {n:N} (ht:exW n = true) (hw:(enc n).wf) (hk:n.kind = 24∨n.kids = []) {c:K} {r:List T} (h:Ah c (tkE n ++ r)) (hr:NoE r) (hb:rest c≤b) (hn:c.nest + 2 * dp n≤202):Got3 c (qe1 rec c) n r:=by
 have hop:opK n = tkE n:=by
  rw [opK,cloK]
  rcases hk with hk | hk
  ·rw [decide_eq_true hk,Bool.or_true,if_pos rfl]
  ·rw [qbi,decide_eq_true hk,Bool.true_or,if_pos rfl]
 rw [← hop] at h
 obtain ⟨x,c',g,s1,s2,s3,s4,s5,s6⟩:=qbkp (rec:=rec) n ht hw c r h (fun _=>hn) fun x hx hdx hxe hxw d s hd hdr hdn=>IH x d _ hxe hxw hd (qbc5 (by decide)) (by omega) (by
  rcases hk with hk | hk
  ·rw [if_pos hk] at hdx;omega
  ·have h1:dp n = 1:=by rw [qra,hk];rfl
   have h2:2≤dp x:=qx5 (decide_eq_false hx)
   omega)
 rw [s6]
 obtain ⟨g',rfl⟩:∃ g',g = g' + 1:=⟨g - 1,by omega⟩
 rw [qyx,qb04 s2 hr,if_neg Bool.false_ne_true]
 exact ⟨rfl,s1,s2,s3⟩
theorem qbeo {n:N} (ht:exW n = true) (hw:(enc n).wf) {x:List UInt8} {c:K} {r:List T} (h:Ah c (mkT x :: (tkE n ++ r))) (hr:NoE r) (hb:rest c≤b) (hn:c.nest + 2 * dp n≤201) (f:Nat):Got3 c (qb0 rec x (f + 1) c) n r:=by
 obtain ⟨_,q1,q2⟩:=h.cons
 have hlt:rest (qg c) < rest c:=by rw [q1.len,h.len];simp
 rw [qb0,if_neg (by rw [h.kind];exact ne_),h.want (qcb _)]
 dsimp only
 rw [if_pos rfl]
 obtain ⟨g1,g2,g3,g4⟩:=qsc (IH n (qg c) r ht hw q1 hr (by omega) (by rw [q2];exact hn))
 exact ⟨g1,g2,g3,g4.trans q2⟩
theorem q36 {n:N} (ht:biW n = true∨sgW n = true) (hw:(enc n).wf) {c:K} {r:List T} (h:Ah c (tkB n ++ r)) (hr:StS r) (hb:rest c≤b) (hn:c.nest + 2 * dp n≤203):Got c (qbm rec c) n r:=by
 rw [((wdE n hw).2.1 ht).2,tkB'] at h
 rcases ht with ht | ht
 ·obtain ⟨h1,h2,h3,h4,h5⟩:=qg3 ht
  have hl:n.kids.length = 1:=by rw [h4];rfl
  have m0:ekN n 0∈n.kids:=qi (by omega)
  have d0:=qcx m0
  rw [if_pos h1,List.cons_append,List.cons_append] at h
  obtain ⟨k1,k2⟩:=h.kindK (k:=1) rfl
  have hte:=h.text
  obtain ⟨_,q1,q2⟩:=h.cons
  have hlt:rest (qg c) < rest c:=by rw [q1.len,h.len];simp
  have hno:=q1.leave_it (x:=[58,58]) (by decide)
  unfold qbm
  rw [k1,k2]
  dsimp only
  rw [if_pos rfl,hno]
  dsimp only
  rw [if_neg Bool.false_ne_true]
  obtain ⟨x,g1,g2,g3,g4⟩:=qbgm (qbeo IH h5 (qcf hw m0) q1 hr.1 (by omega) (by rw [q2];omega) (rest (qg c)))
  rw [g1]
  refine ⟨_,rfl,qfw h1.symm h2.symm hte ?_,g3,g4.trans q2⟩
  rw [h4];exact congrArg (· :: []) g2
 ·obtain ⟨h1,h2,h3,h4,h5⟩:=qg4 ht
  have hl:n.kids.length = 1:=by rw [h4];rfl
  have m0:ekN n 0∈n.kids:=qi (by omega)
  have d0:=qcx m0
  rw [if_neg (by omega),List.cons_append,List.cons_append] at h
  obtain ⟨k1,k2⟩:=h.kindK (k:=1) rfl
  have hte:=h.text
  obtain ⟨_,q1,q2⟩:=h.cons
  have hyes:=q1.take (x:=[58,58]) (qcb _)
  obtain ⟨_,q3,q4⟩:=q1.cons
  unfold qbm
  rw [k1,k2]
  dsimp only
  rw [if_pos rfl,hyes]
  dsimp only
  rw [if_pos rfl]
  obtain ⟨x,g1,g2,g3,g4⟩:=qb0r h5 q3 hr.1.A hr.2.1 hr.2.2 (f:=rest (qg (qg c)) + 2) (by omega) (by rw [q4,q2];omega)
  rw [g1]
  refine ⟨_,rfl,qfw h1.symm h2.symm hte ?_,g3,g4.trans (q4.trans q2)⟩
  rw [h4];exact congrArg (· :: []) g2
theorem qcie {n:N} (ht:alW n = true) (hw:(enc n).wf) {c:K} {r:List T} (h:Ah c (tkL n ++ r)) (hr:NoE r) (hb:rest c≤b) (hn:c.nest + 2 * dp n≤203):Got3 c (qdv rec c) n r:=by
 rw [((wdE n hw).2.2 ht).2,tkL'] at h
 obtain ⟨h1,h2,h3,h4,h5,h6⟩:=qjv ht
 have hl:n.kids.length = 2:=by rw [h4];rfl
 have m0:ekN n 0∈n.kids:=qi (by omega)
 have m1:ekN n 1∈n.kids:=qi (by omega)
 have d0:=qcx m0
 have d1:=qcx m1
 rw [List.append_assoc,List.cons_append] at h
 obtain ⟨x,g1,g2,g3,g4⟩:=qbp1 (rest c + 2) _ c _ h5 (qcf hw m0) h (qbo9 (by decide) (by decide)) (by omega) (by omega)
 unfold qdv altB
 rw [if_pos (by rw [g1];rfl),g1,g3.want (x:=[45,62]) (qcb _)]
 dsimp only [Option.getD_some]
 unfold altC
 rw [if_pos rfl]
 obtain ⟨_,q1,q2⟩:=g3.cons
 have hlt:rest (qg (qb6 (rest c + 2) c).1) < rest c:=by rw [q1.len,h.len];simp only [List.length_append,List.length_cons];omega
 obtain ⟨y,k1,k2,k3,k4⟩:=IH _ _ r h6 (qcf hw m1) q1 hr (by omega) (by rw [q2,g4];omega)
 refine ⟨by dsimp only;rw [k1];rfl,?_,k3,k4.trans (q2.trans g4)⟩
 dsimp only
 rw [k1]
 refine qfw h1.symm h3.symm h2.symm ?_
 rw [h4]
 show [qk x,qk y] = [qk _,qk _]
 rw [show qk x = qk (ekN n 0) from g2,show qk y = qk (ekN n 1) from k2]
end

theorem qqh {n:N} (ht:biW n = true∨sgW n = true) (hw:(enc n).wf):∃ t s,tkB n = t :: s∧qcg t [125] = false:=by
 rw [((wdE n hw).2.1 ht).2,tkB']
 split<;>exact ⟨_,_,rfl,qc9 (t:=vaT n) ne_ ne_ _⟩
theorem qbm7 {n:N} (ht:paW n = true) (hw:(enc n).wf):∃ t s,tkP n = t :: s∧qcg t [125] = false:=by
 rw [(wdP n ht hw).2,tkP']
 rcases qg6 ht with ⟨h,h1,h2,h3⟩ | ⟨h,h1,h2,h3⟩ | ⟨h,h1,h2,h3⟩ | ⟨h,h1,h2,h3⟩
 ·rw [if_neg (by omega),if_neg (by omega)]
  exact ⟨_,_,rfl,qc9 (by rw [qkn,if_pos h];exact ne_) (by rw [qkn,if_pos h];exact ne_) _⟩
 ·rw [if_pos h];exact ⟨_,_,rfl,by decide⟩
 ·rw [if_neg (by omega),if_pos h];exact ⟨_,_,rfl,qc9 (t:=intT n.num) ne_ ne_ _⟩
 ·rw [if_neg (by omega),if_neg (by omega)]
  exact ⟨_,_,rfl,qc9 (by rw [qkn,if_neg (by omega)];exact ne_) (by rw [qkn,if_neg (by omega)];exact ne_) _⟩
theorem qbis {n:N} (ht:alW n = true) (hw:(enc n).wf):∃ t s,tkL n = t :: s∧qcg t [125] = false:=by
 rw [((wdE n hw).2.2 ht).2,tkL']
 obtain ⟨_,_,_,h4,h5,_⟩:=qjv ht
 have hl:n.kids.length = 2:=by rw [h4];rfl
 obtain ⟨t,s,e,h⟩:=qbm7 h5 (qcf hw (qi (by omega)))
 exact ⟨t,_,by rw [e,List.cons_append],h⟩
theorem qnv {t:T} {a x:List UInt8} (h:t = rsT a) (hx:a≠x):qcg t x = false:=by subst h;simp [qcg,rsT,hx]
section
variable {rec:K->K×Option N} {b:Nat} (IH:∀ (m:N) (d:K) (s:List T),exW m = true->(enc m).wf->Ah d (tkE m ++ s)->NoE s->rest d < b->d.nest + 2 * dp m≤201->Got d (rec d) m s)
include IH
theorem qbua {n:N} (ht:exW n = true) (hw:(enc n).wf) {c:K} {r:List T} (h:Ah c (tkE n ++ r)) (hr:NoE r) (hb:rest c≤b) (hn:c.nest + 2 * dp n≤202):Got3 c (qc8 rec c) n r:=by
 have h':=h
 rw [((wdE n hw).1 ht).2,tkE'] at h
 unfold qc8
 rcases qii ht with ⟨h0,h1,h2,h3⟩ | ⟨h0,h1,h2,h3⟩ | ⟨h0,h1,h2,h3⟩ | ⟨h0,h1,h2,h3,h4,h5⟩ | ⟨h0,h1,h2,h3,h4⟩ | ⟨h0,h1,h2,h3,h4,h5,h6⟩ | ⟨h0,h1,h2,h3,h4,h5,h6⟩ | ⟨h0,h1,h2,h3,h4,h5,h6⟩
 ·simp only [h0,Int.reduceEq,if_false,if_true,List.cons_append] at h
  rw [h.leave_it (qc9 ne_ ne_ _)]
  dsimp only
  rw [if_neg Bool.false_ne_true,h.leave_it (qc9 ne_ ne_ _)]
  dsimp only
  rw [if_neg Bool.false_ne_true,h.leave_it (qc9 ne_ ne_ _)]
  dsimp only
  rw [if_neg Bool.false_ne_true,h.leave_it (qc9 ne_ ne_ _)]
  dsimp only
  rw [if_neg Bool.false_ne_true]
  exact q6r IH ht hw (.inr h2) h' hr hb hn
 ·simp only [h0,Int.reduceEq,if_false,if_true,List.cons_append] at h
  rw [h.leave_it (qc9 ne_ ne_ _)]
  dsimp only
  rw [if_neg Bool.false_ne_true,h.leave_it (qc9 ne_ ne_ _)]
  dsimp only
  rw [if_neg Bool.false_ne_true,h.leave_it (qc9 ne_ ne_ _)]
  dsimp only
  rw [if_neg Bool.false_ne_true,h.leave_it (qc9 ne_ ne_ _)]
  dsimp only
  rw [if_neg Bool.false_ne_true]
  exact q6r IH ht hw (.inr h2) h' hr hb hn
 ·simp only [h0,Int.reduceEq,if_false,if_true,List.cons_append] at h
  rw [h.leave_it (qc9 ne_ ne_ _)]
  dsimp only
  rw [if_neg Bool.false_ne_true,h.leave_it (qc9 ne_ ne_ _)]
  dsimp only
  rw [if_neg Bool.false_ne_true,h.leave_it (qc9 ne_ ne_ _)]
  dsimp only
  rw [if_neg Bool.false_ne_true,h.leave_it (qc9 ne_ ne_ _)]
  dsimp only
  rw [if_neg Bool.false_ne_true]
  exact q6r IH ht hw (.inr h2) h' hr hb hn
 ·-- an application: its first word
  have hfst:∀ m:N,exW m = true->(enc m).wf->∃ t s,opK m = t :: s∧∀ x:List UInt8,x≠[40]->qcg t x = false:=N.ind fun m ihm hm hmw=>by
   by_cases hk:m.kind = 24
   ·obtain ⟨q2,q4⟩:m.kids = [ekN m 0,ekN m 1]∧exW (ekN m 0) = true:=by
     rcases qii hm with ⟨h,_⟩ | ⟨h,_⟩ | ⟨h,_⟩ | ⟨h,h1,h2,h3,h4,h5⟩ | ⟨h,_⟩ | ⟨h,_⟩ | ⟨h,_⟩ | ⟨h,_⟩<;>first | omega | exact ⟨h2,h4⟩
    have hl:m.kids.length = 2:=by rw [q2];rfl
    have m0:ekN m 0∈m.kids:=qi (by omega)
    obtain ⟨t,s,e,hx⟩:=ihm _ m0 q4 (qcf hmw m0)
    refine ⟨t,s ++ agK (ekN m 1),?_,hx⟩
    rw [opK,decide_eq_true hk,Bool.or_true,cloK,if_pos rfl,((wdE m hmw).1 hm).2]
    simp only [tkE',hk,Int.reduceEq,if_false,if_true]
    rw [e,List.cons_append]
   ·cases hlf:qbi m with
    | true =>
      obtain ⟨t,e,hkd,_,_⟩:=q23 hm (of_decide_eq_true hlf)
      refine ⟨t,[],by rw [opK,hlf,Bool.true_or,cloK,if_pos rfl,((wdE m hmw).1 hm).2,e],fun x _=>qc9 (by rcases hkd with h | h | h<;>rw [h]<;>decide) (by rcases hkd with h | h | h<;>rw [h]<;>decide) x⟩
    | false =>
      exact ⟨mkT [40],_,by rw [opK,hlf,decide_eq_false hk,Bool.or_self,cloK,if_neg Bool.false_ne_true],fun x hx=>by simp [qcg,mkT,Ne.symm hx]⟩
  obtain ⟨t,s,e,hx⟩:=hfst n ht hw
  have hop:opK n = tkE n:=by rw [opK,decide_eq_true h0,Bool.or_true,cloK,if_pos rfl]
  have h2':=h'
  rw [← hop,e,List.cons_append] at h2'
  rw [h2'.leave_it (hx _ (by decide))]
  dsimp only
  rw [if_neg Bool.false_ne_true,h2'.leave_it (hx _ (by decide))]
  dsimp only
  rw [if_neg Bool.false_ne_true,h2'.leave_it (hx _ (by decide))]
  dsimp only
  rw [if_neg Bool.false_ne_true,h2'.leave_it (hx _ (by decide))]
  dsimp only
  rw [if_neg Bool.false_ne_true]
  exact q6r IH ht hw (.inl h0) h' hr hb hn
 ·have hl:n.kids.length = 1:=by rw [h2];rfl
  have m0:ekN n 0∈n.kids:=qi (by omega)
  have d0:=qcx m0
  simp only [h0,Int.reduceEq,if_false,if_true,List.cons_append] at h
  rw [h.take (qcb _)]
  dsimp only
  obtain ⟨_,q1,q2⟩:=h.cons
  have hk1:(qp (qg c)).kind = 1:=q1.kind
  have hte:=q1.text
  rw [if_pos rfl,if_pos hk1]
  obtain ⟨_,q3,q4⟩:=q1.cons
  have hl1:rest (qg c) < rest c:=by rw [q1.len,h.len];simp
  have hl2:rest (qg (qg c)) < rest (qg c):=by rw [q3.len,q1.len];simp
  rw [qb0,if_pos hk1]
  obtain ⟨g,hg⟩:∃ g,rest (qg c) = g + 1:=⟨rest (qg c) - 1,by omega⟩
  rw [hg]
  obtain ⟨g1,g2,g3,g4⟩:=qbeo IH h4 (qcf hw m0) q3 hr (by omega) (by rw [q4,q2];omega) g
  refine ⟨g1,qfw h0.symm h3.symm hte ?_,g3,g4.trans (q4.trans q2)⟩
  rw [h2];exact congrArg (· :: []) g2
 ·have hl:0 < n.kids.length:=by rw [h2];simp
  have m1:ekN n (n.kids.length - 1)∈n.kids:=qi (by omega)
  have d1:=qcx m1
  have hm:∀ x∈eitN n,x∈n.kids:=fun x hx=>List.mem_of_mem_take hx
  simp only [h0,Int.reduceEq,if_false,if_true,List.cons_append,List.append_assoc] at h
  rw [h.leave_it (qnv rfl (by decide))]
  dsimp only
  rw [if_neg Bool.false_ne_true,h.take (x:=[108,101,116]) (qhi _)]
  dsimp only
  rw [if_pos rfl]
  obtain ⟨_,q1,q2⟩:=h.cons
  have hl1:rest (qg c) < rest c:=by rw [q1.len,h.len];simp
  obtain ⟨xs,k1,k2,k3,k4⟩:=q98 (rd:=fun c=>ofO (qbm rec c)) (g:=tkB) h5 q1 (fun x hx=>qqh (h4 x hx) (qcf hw (hm x hx))) fun x hx d s hd hs hdr hdn=>qsc (q36 IH (h4 x hx) (qcf hw (hm x hx)) hd hs (by omega) (by have:=qcx (hm x hx);omega))
  obtain ⟨k5,k6⟩:=Prod.ext_iff.1 k1
  dsimp only at k5 k6
  unfold qgo letB
  rw [if_pos k6,k3.want (x:=[105,110]) (qhi _)]
  unfold letC
  rw [if_pos rfl]
  obtain ⟨_,q3,q4⟩:=k3.cons
  have hl3:rest (qg (q8 (fun c=>ofO (qbm rec c)) (qg c)).1) < rest c:=by rw [q3.len,h.len];simp only [List.length_append,List.length_cons];omega
  obtain ⟨y,j1,j2,j3,j4⟩:=IH _ _ r h6 (qcf hw m1) q3 hr (by omega) (by rw [q4,k4,q2];omega)
  refine ⟨by dsimp only;rw [j1];rfl,?_,j3,j4.trans (q4.trans (k4.trans q2))⟩
  dsimp only
  rw [j1,k5]
  refine qfw h0.symm h3.symm h1.symm ?_
  rw [h2]
  show (xs ++ [y]).map qk = _
  rw [List.map_append,List.map_append,k2]
  exact congrArg (_ ++ [·]) j2
 ·have hl:0 < n.kids.length:=by rw [h2];simp
  have m0:ekN n 0∈n.kids:=qi (by omega)
  have d0:=qcx m0
  have hm:∀ x∈n.kids.drop 1,x∈n.kids:=fun x hx=>List.mem_of_mem_drop hx
  simp only [h0,Int.reduceEq,if_false,if_true,List.cons_append,List.append_assoc] at h
  rw [h.leave_it (qnv rfl (by decide))]
  dsimp only
  rw [if_neg Bool.false_ne_true,h.leave_it (qnv rfl (by decide))]
  dsimp only
  rw [if_neg Bool.false_ne_true,h.take (x:=[99,97,115,101]) (qhi _)]
  dsimp only
  rw [if_pos rfl]
  obtain ⟨_,q1,q2⟩:=h.cons
  have hl1:rest (qg c) < rest c:=by rw [q1.len,h.len];simp
  obtain ⟨y,j1,j2,j3,j4⟩:=IH _ _ _ h4 (qcf hw m0) q1 (qbey (by decide)) (by omega) (by rw [q2];omega)
  unfold qeh
  rw [if_pos (by rw [j1];rfl),j1,j3.want (x:=[111,102]) (qhi _)]
  dsimp only [Option.getD_some]
  unfold qy1
  rw [if_pos rfl]
  obtain ⟨_,q3,q4⟩:=j3.cons
  have hl3:rest (qg (rec (qg c)).1) < rest c:=by rw [q3.len,h.len];simp only [List.length_append,List.length_cons];omega
  obtain ⟨xs,k1,k2,k3,k4⟩:=q98 (rd:=qdv rec) (g:=tkL) h6 q3 (fun x hx=>qbis (h5 x hx) (qcf hw (hm x hx))) fun x hx d s hd hs hdr hdn=>qcie IH (h5 x hx) (qcf hw (hm x hx)) hd hs.1 (by omega) (by have:=qcx (hm x hx);omega)
  obtain ⟨k5,k6⟩:=Prod.ext_iff.1 k1
  dsimp only at k5 k6
  unfold q02
  refine ⟨k6,?_,k3,k4.trans (q4.trans (j4.trans q2))⟩
  dsimp only
  rw [k5]
  refine qfw h0.symm h3.symm h1.symm ?_
  rw [h2]
  show qk y :: xs.map qk = qk _ :: _
  rw [k2,show qk y = qk (ekN n 0) from j2]
 ·have hl:n.kids.length = 3:=by rw [h2];rfl
  have m0:ekN n 0∈n.kids:=qi (by omega)
  have m1:ekN n 1∈n.kids:=qi (by omega)
  have m2:ekN n 2∈n.kids:=qi (by omega)
  have d0:=qcx m0
  have d1:=qcx m1
  have d2:=qcx m2
  simp only [h0,Int.reduceEq,if_false,if_true,List.cons_append,List.append_assoc] at h
  rw [h.leave_it (qnv rfl (by decide))]
  dsimp only
  rw [if_neg Bool.false_ne_true,h.leave_it (qnv rfl (by decide))]
  dsimp only
  rw [if_neg Bool.false_ne_true,h.leave_it (qnv rfl (by decide))]
  dsimp only
  rw [if_neg Bool.false_ne_true,h.take (x:=[105,102]) (qhi _)]
  dsimp only
  rw [if_pos rfl]
  obtain ⟨_,q1,q2⟩:=h.cons
  have hl1:rest (qg c) < rest c:=by rw [q1.len,h.len];simp
  obtain ⟨x,g1,g2,g3,g4⟩:=IH _ _ _ h4 (qcf hw m0) q1 (qbey (by decide)) (by omega) (by rw [q2];omega)
  have hl2:rest (rec (qg c)).1 < rest c:=by rw [g3.len,h.len];simp only [List.length_append,List.length_cons];omega
  obtain ⟨_,q3,q4⟩:=g3.cons
  have hl3:rest (qg (rec (qg c)).1) < rest c:=by rw [q3.len,h.len];simp only [List.length_append,List.length_cons];omega
  obtain ⟨y,k1,k2,k3,k4⟩:=IH _ _ _ h5 (qcf hw m1) q3 (qbey (by decide)) (by omega) (by rw [q4,g4,q2];omega)
  obtain ⟨_,q5,q6⟩:=k3.cons
  have hl5:rest (qg (rec (qg (rec (qg c)).1)).1) < rest c:=by rw [q5.len,h.len];simp only [List.length_append,List.length_cons];omega
  obtain ⟨z,j1,j2,j3,j4⟩:=IH _ _ r h6 (qcf hw m2) q5 hr (by omega) (by rw [q6,k4,q4,g4,q2];omega)
  unfold ifsW
  have e0:ifsK (qg c) [] = (qg c,true):=if_pos rfl
  have e1:ifsK (rec (qg c)).1 [116,104,101,110] = (qg (rec (qg c)).1,true):=(if_neg (by decide)).trans (g3.want (x:=[116,104,101,110]) (qhi _))
  have e2:ifsK (rec (qg (rec (qg c)).1)).1 [101,108,115,101] = (qg (rec (qg (rec (qg c)).1)).1,true):=(if_neg (by decide)).trans (k3.want (x:=[101,108,115,101]) (qhi _))
  rw [qda,e0]
  dsimp only
  rw [if_pos rfl,if_pos (by rw [g1];rfl),qda,e1]
  dsimp only
  rw [if_pos rfl,if_pos (by rw [k1];rfl),qda,e2]
  dsimp only
  rw [if_pos rfl,if_pos (by rw [j1];rfl),qda,g1,k1,j1]
  refine ⟨rfl,qfw h0.symm h3.symm h1.symm ?_,j3,j4.trans (q6.trans (k4.trans (q4.trans (g4.trans q2))))⟩
  rw [h2]
  show [qk x,qk y,qk z] = [qk _,qk _,qk _]
  rw [show qk x = qk (ekN n 0) from g2,show qk y = qk (ekN n 1) from k2,show qk z = qk (ekN n 2) from j2]
end
theorem qbgn:∀ (f:Nat) (n:N) (c:K) (r:List T),exW n = true->(enc n).wf->Ah c (tkE n ++ r)->NoE r->rest c < f->c.nest + 2 * dp n≤201->Got c (qfo f c) n r
 | 0,n,c,r,_,_,_,_,hf,_=>by omega
 | f + 1, n, c, r, ht, hw, h, hr, hf, hd => by
   have hp:=qk2 n
   rw [qfo]
   obtain ⟨n1,n2,n3⟩:=h.enter (by omega)
   rw [if_pos n1]
   have hc1:rest (qb c).1 = rest c:=by rw [n2.len,h.len]
   obtain ⟨x,g1,g2,g3,g4⟩:=qbgm (qbua (rec:=qfo f) (b:=f) (fun m d s h1 h2 h3 h4 h5 h6=>qbgn f m d s h1 h2 h3 h4 h5 h6) ht hw n2 hr (by omega) (by omega))
   obtain ⟨l1,l2⟩:=Ah.leave (c:=(qc8 (qfo f) (qb c).1).1) g3 (m:=c.nest) (g4.trans n3)
   exact ⟨x,g1,g2,l1,l2⟩
end Go.Proofs.YtlmcofjcpadmiaaGreat
