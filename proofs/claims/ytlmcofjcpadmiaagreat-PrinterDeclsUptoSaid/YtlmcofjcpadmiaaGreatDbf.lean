/- Texts of this proof, joined. -/
import Derived.Test.YtlmcofjcpadmiaaGreatDbd
import Derived.Test.YtlmcofjcpadmiaaGreatDbe
import Derived.Test.YtlmcofjcpadmiaaGreatDba
set_option linter.unusedVariables false
set_option linter.unusedSimpArgs false

/- expressions that are written: their words -/
namespace Go.Proofs.YtlmcofjcpadmiaaGreat
open Go Go.RowKit Go.V

theorem qml (n:N):ptB n = if n.kind = 31 then n.text ++ ([32,61,32] ++ (if 0 < n.kids.length then ptE (n.kids.getD 0 N0) else [])) else sgT n:=by
 obtain ⟨k,p,m,t,ks⟩:=n
 have ha:(((ks.map pba).zip ks).getD 0 q3).1.1 = if 0 < ks.length then ptE (ks.getD 0 N0) else []:=by
  by_cases h:0 < ks.length
  ·rw [if_pos h,qyo ks h]
  ·rw [if_neg h,qia,List.getD_eq_getElem?_getD,List.getElem?_eq_none (by simpa using h)];rfl
 simp only [ptB,pba,qst,ha,N.kind,N.text,N.kids]
 rfl
theorem quc (n:N):ptL n = ptP (n.kids.getD 0 N0) ++ ([32,45,62,32] ++ (if 1 < n.kids.length then ptE (n.kids.getD 1 N0) else [])):=by
 obtain ⟨k,p,m,t,ks⟩:=n
 have ha:(((ks.map pba).zip ks).getD 1 q3).1.1 = if 1 < ks.length then ptE (ks.getD 1 N0) else []:=by
  by_cases h:1 < ks.length
  ·rw [if_pos h,qyo ks h]
  ·rw [if_neg h,qia,List.getD_eq_getElem?_getD,List.getElem?_eq_none (by simpa using h)];rfl
 simp only [ptL,pba,qst,ha,N.kids]
 rfl
def tkE (n:N):List T:=(tokW (ptE n)).getD []
def tkB (n:N):List T:=(tokW (ptB n)).getD []
def tkL (n:N):List T:=(tokW (ptL n)).getD []
def vaT (n:N):T:=⟨1,0,0,n.text⟩
def wLet:List UInt8:=[108,101,116]
def wIn:List UInt8:=[105,110]
def qbi3:List UInt8:=[99,97,115,101]
def wOf:List UInt8:=[111,102]
def wIf:List UInt8:=[105,102]
def qbwg:List UInt8:=[116,104,101,110]
def qbon:List UInt8:=[101,108,115,101]
def semK (l:List (List T)):List T:=mkT [123] :: (qdu (mkT [59]) l ++ [mkT [125]])
def opK (n:N):List T:=cloK (qba n || decide (n.kind = 24)) (tkE n)
def agK (n:N):List T:=cloK (qba n) (tkE n)
def ekN (n:N) (i:Nat):N:=n.kids.getD i N0
def eitN (n:N):List N:=n.kids.take (n.kids.length - 1)
def tkE' (n:N):List T :=
 if n.kind = 23 then [intT n.num]
 else if n.kind = 24 then opK (ekN n 0) ++ agK (ekN n 1)
 else if n.kind = 25 then mkT [92] :: vaT n :: mkT arW :: tkE (ekN n 0)
 else if n.kind = 26 then rsT wLet :: (semK ((eitN n).map tkB) ++ rsT wIn :: tkE (ekN n (n.kids.length - 1)))
 else if n.kind = 27 then rsT qbi3 :: (tkE (ekN n 0) ++ rsT wOf :: semK ((n.kids.drop 1).map tkL))
 else if n.kind = 28 then rsT wIf :: (tkE (ekN n 0) ++ rsT qbwg :: (tkE (ekN n 1) ++ rsT qbon :: tkE (ekN n 2)))
 else [⟨if n.kind = 21 then 1 else 2,0,0,n.text⟩]
def tkB' (n:N):List T:=if n.kind = 31 then vaT n :: mkT [61] :: tkE (ekN n 0) else vaT n :: mkT [58,58] :: tkQ (ekN n 0)
def tkL' (n:N):List T:=tkP (ekN n 0) ++ mkT arW :: tkE (ekN n 1)
inductive ExQ (n:N):Prop
 | var (h:n.kind = 21) (h1:varW n.text = true) (h2:n.kids = []) (h3:n.num = 0)
 | con (h:n.kind = 22) (h1:conW n.text = true) (h2:n.kids = []) (h3:n.num = 0)
 | int (h:n.kind = 23) (h1:n.text = []) (h2:n.kids = []) (h3:0≤n.num)
 | app (h:n.kind = 24) (h1:n.text = []) (h2:n.kids = [ekN n 0,ekN n 1]) (h3:n.num = 0) (h4:exW (ekN n 0) = true) (h5:exW (ekN n 1) = true)
 | lam (h:n.kind = 25) (h1:varW n.text = true) (h2:n.kids = [ekN n 0]) (h3:n.num = 0) (h4:exW (ekN n 0) = true)
 | let_ (h:n.kind = 26) (h1:n.text = []) (h2:n.kids = eitN n ++ [ekN n (n.kids.length - 1)]) (h3:n.num = 0) (h4:∀ x∈eitN n,biW x = true∨sgW x = true) (h5:eitN n≠[]) (h6:exW (ekN n (n.kids.length - 1)) = true)
 | case (h:n.kind = 27) (h1:n.text = []) (h2:n.kids = ekN n 0 :: n.kids.drop 1) (h3:n.num = 0) (h4:exW (ekN n 0) = true) (h5:∀ x∈n.kids.drop 1,alW x = true) (h6:n.kids.drop 1≠[])
 | if_ (h:n.kind = 28) (h1:n.text = []) (h2:n.kids = [ekN n 0,ekN n 1,ekN n 2]) (h3:n.num = 0) (h4:exW (ekN n 0) = true) (h5:exW (ekN n 1) = true) (h6:exW (ekN n 2) = true)
theorem qb1p {l:List N} (h:l.length = 1):l = [l.getD 0 N0]:=by
 match l,h with
 | [a],_=>rfl
theorem q2j {l:List N} (h:l.length = 2):l = [l.getD 0 N0,l.getD 1 N0]:=by
 match l,h with
 | [a,b],_=>rfl
theorem qb71 {l:List N} (h:l.length = 3):l = [l.getD 0 N0,l.getD 1 N0,l.getD 2 N0]:=by
 match l,h with
 | [a,b,c],_=>rfl
theorem qgs {n:N} (h:exW n = true):ExQ n:=by
 rw [qbh0] at h
 have h0:decide ((n.kids.length:Int) = 0) = true->n.kids = []:=fun e=>List.length_eq_zero_iff.1 (by have:=of_decide_eq_true e;omega)
 have hi:((n.kids.length:Int) - 1).toNat = n.kids.length - 1:=by omega
 by_cases h1:n.kind = 21
 ·rw [if_pos h1] at h
  simp only [Bool.and_eq_true] at h
  exact .var h1 h.1.2 (h0 h.2) (of_decide_eq_true h.1.1)
 rw [if_neg h1] at h
 by_cases h2:n.kind = 22
 ·rw [if_pos h2] at h
  simp only [Bool.and_eq_true] at h
  exact .con h2 h.1.2 (h0 h.2) (of_decide_eq_true h.1.1)
 rw [if_neg h2] at h
 by_cases h3:n.kind = 23
 ·rw [if_pos h3] at h
  simp only [Bool.and_eq_true] at h
  exact .int h3 (of_decide_eq_true h.1.1) (h0 h.2) (of_decide_eq_true h.1.2)
 rw [if_neg h3] at h
 by_cases h4:n.kind = 24
 ·rw [if_pos h4] at h
  simp only [Bool.and_eq_true,decide_eq_true_eq,List.all_eq_true] at h
  obtain ⟨⟨⟨a,b⟩,c⟩,d⟩:=h
  have hl:n.kids.length = 2:=by omega
  exact .app h4 a (q2j hl) b (d _ (qf (by omega))) (d _ (qf (by omega)))
 rw [if_neg h4] at h
 by_cases h5:n.kind = 25
 ·rw [if_pos h5] at h
  simp only [Bool.and_eq_true,decide_eq_true_eq] at h
  obtain ⟨⟨⟨a,b⟩,c⟩,d⟩:=h
  exact .lam h5 b (qb1p (by omega)) a d
 rw [if_neg h5] at h
 by_cases h6:n.kind = 26
 ·rw [if_pos h6] at h
  simp only [Bool.and_eq_true,decide_eq_true_eq,List.all_eq_true,Bool.or_eq_true,hi] at h
  obtain ⟨⟨⟨⟨a,b⟩,c⟩,d⟩,e⟩:=h
  have hl:n.kids.length - 1 < n.kids.length:=by omega
  refine .let_ h6 a ?_ b d (fun e=>?_) e
  ·rw [eitN,ekN,← qbtw hl,List.take_of_length_le (by omega)]
  ·have:=congrArg List.length e
   rw [eitN,List.length_take,List.length_nil] at this;omega
 rw [if_neg h6] at h
 by_cases h7:n.kind = 27
 ·rw [if_pos h7] at h
  simp only [Bool.and_eq_true,decide_eq_true_eq,List.all_eq_true] at h
  obtain ⟨⟨⟨⟨a,b⟩,c⟩,d⟩,e⟩:=h
  refine .case h7 a ?_ b d e (fun e=>?_)
  ·have:=qyd (l:=n.kids) (i:=0) (by omega)
   rwa [List.drop_zero] at this
  ·have:=congrArg List.length e
   rw [List.length_drop,List.length_nil] at this;omega
 rw [if_neg h7] at h
 by_cases h8:n.kind = 28
 ·rw [if_pos h8] at h
  simp only [Bool.and_eq_true,decide_eq_true_eq,List.all_eq_true] at h
  obtain ⟨⟨⟨a,b⟩,c⟩,d⟩:=h
  have hl:n.kids.length = 3:=by omega
  exact .if_ h8 a (qb71 hl) b (d _ (qf (by omega))) (d _ (qf (by omega))) (d _ (qf (by omega)))
 ·rw [if_neg h8] at h;cases h
theorem qfs {n:N} (h:sgW n = true):n.kind = 32∧n.num = 0∧varW n.text = true∧n.kids = [ekN n 0]∧quW (ekN n 0) = true:=by
 simp only [sgW,Bool.and_eq_true,decide_eq_true_eq] at h
 obtain ⟨⟨⟨⟨a,b⟩,c⟩,d⟩,e⟩:=h
 exact ⟨a,b,c,qb1p (by omega),e⟩
theorem qfu {n:N} (h:biW n = true):n.kind = 31∧n.num = 0∧varW n.text = true∧n.kids = [ekN n 0]∧exW (ekN n 0) = true:=by
 rw [qbim] at h
 simp only [Bool.and_eq_true,decide_eq_true_eq] at h
 obtain ⟨⟨⟨⟨a,b⟩,c⟩,d⟩,e⟩:=h
 exact ⟨a,b,c,qb1p (by omega),e⟩
theorem qh2 {n:N} (h:alW n = true):n.kind = 15∧n.text = []∧n.num = 0∧n.kids = [ekN n 0,ekN n 1]∧paW (ekN n 0) = true∧exW (ekN n 1) = true:=by
 rw [qbh5] at h
 simp only [Bool.and_eq_true,decide_eq_true_eq] at h
 obtain ⟨⟨⟨⟨⟨a,b⟩,c⟩,d⟩,e⟩,f⟩:=h
 exact ⟨a,b,c,q2j (by omega),e,f⟩
theorem qcdq {n:N} (h:sgW n = true):Wd (ptB n) (tkB' n):=fun r hr=>by
 obtain ⟨h1,_,h3,h4,h5⟩:=qfs h
 rw [qml,tkB',if_neg (by omega),if_neg (by omega),sgT]
 simp only [List.append_assoc,List.cons_append,List.nil_append]
 rw [qlz h3 (qdc _),qb6,qb87,qb6]
 show ((tokW (quT (ekN n 0) ++ r)).map _).map _ = _
 rw [qcdu h5 r hr]
 cases tokW r<;>simp [vaT]
theorem qbir (n:N):ptB n≠[]:=by
 rw [qml]
 split
 ·simp
 ·rw [sgT];simp
theorem qcab (n:N):ptL n≠[]:=by rw [quc];simp
theorem qbmn {f:N->List UInt8} {s:List UInt8} (hf:∀ x,f x≠[]):∀ (l:List N),l≠[]->Lib.join (l.map f) s≠[]
 | [],h=>absurd rfl h
 | [x],_=>by rw [List.map_singleton,qln];exact hf x
 | x :: y :: l, _ => by
   rw [List.map_cons,List.map_cons,qiu]
   intro h
   exact hf x (List.append_eq_nil_iff.1 h).1
theorem qcad (r:List UInt8):tokW (smW ++ r) = (tokW r).map (mkT [59] :: ·):=by
 show tokW (59 :: 32 :: r) = _
 rw [qbid,qb6]
theorem qbzj {f:N->List UInt8} {g:N->List T} (hf:∀ x,f x≠[]) {l:List N} (hl:l≠[]) (h:∀ x∈l,Wd (f x) (g x)) (r:List UInt8):tokW (brW (Lib.join (l.map f) smW) ++ r) = (tokW r).map (semK (l.map g) ++ ·):=by
 have hj:=qs1 qcad (fun r=>qbie _) l hl h
 rw [brW,if_neg (qbmn hf l hl)]
 simp only [List.append_assoc,List.cons_append,List.nil_append]
 rw [q6v,qb6,hj _ (qdc _),qb6,q3b]
 cases tokW r<;>simp [semK]
theorem qb88 (r:List UInt8):tokW (brW [] ++ r) = (tokW r).map (semK [] ++ ·):=by
 show tokW (123 :: 32 :: 125 :: r) = _
 rw [q6v,qb6,q3b]
 cases tokW r<;>rfl
theorem qbdk {r:List UInt8}:tokW (108 :: 101 :: 116 :: 32 :: r) = (tokW (32 :: r)).map (rsT wLet :: ·):=qgc (w:=wLet) (by decide) (by decide) (by decide) (by decide) rfl (qdc _)
theorem qb0s {r:List UInt8}:tokW (105 :: 110 :: 32 :: r) = (tokW (32 :: r)).map (rsT wIn :: ·):=qgc (w:=wIn) (by decide) (by decide) (by decide) (by decide) rfl (qdc _)
theorem q6s {r:List UInt8}:tokW (99 :: 97 :: 115 :: 101 :: 32 :: r) = (tokW (32 :: r)).map (rsT qbi3 :: ·):=qgc (w:=qbi3) (by decide) (by decide) (by decide) (by decide) rfl (qdc _)
theorem qbwe {r:List UInt8}:tokW (111 :: 102 :: 32 :: r) = (tokW (32 :: r)).map (rsT wOf :: ·):=qgc (w:=wOf) (by decide) (by decide) (by decide) (by decide) rfl (qdc _)
theorem qb4m {r:List UInt8}:tokW (105 :: 102 :: 32 :: r) = (tokW (32 :: r)).map (rsT wIf :: ·):=qgc (w:=wIf) (by decide) (by decide) (by decide) (by decide) rfl (qdc _)
theorem q54 {r:List UInt8}:tokW (116 :: 104 :: 101 :: 110 :: 32 :: r) = (tokW (32 :: r)).map (rsT qbwg :: ·):=qgc (w:=qbwg) (by decide) (by decide) (by decide) (by decide) rfl (qdc _)
theorem q7z {r:List UInt8}:tokW (101 :: 108 :: 115 :: 101 :: 32 :: r) = (tokW (32 :: r)).map (rsT qbon :: ·):=qgc (w:=qbon) (by decide) (by decide) (by decide) (by decide) rfl (qdc _)
set_option maxHeartbeats 1000000 in
theorem wdE:∀ n,(enc n).wf->(exW n = true->Wd (ptE n) (tkE n)∧tkE n = tkE' n)∧((biW n = true∨sgW n = true)->Wd (ptB n) (tkB n)∧tkB n = tkB' n)∧(alW n = true->Wd (ptL n) (tkL n)∧tkL n = tkL' n):=N.ind fun n ih hwf=>by
 have hx:∀ x∈n.kids,exW x = true->Wd (ptE x) (tkE x):=fun x hx h=>((ih x hx (qb2 hwf hx)).1 h).1
 have hB:∀ x∈n.kids,biW x = true∨sgW x = true->Wd (ptB x) (tkB x):=fun x hx h=>((ih x hx (qb2 hwf hx)).2.1 h).1
 have hL:∀ x∈n.kids,alW x = true->Wd (ptL x) (tkL x):=fun x hx h=>((ih x hx (qb2 hwf hx)).2.2 h).1
 refine ⟨fun h=>?_,fun h=>?_,fun h=>?_⟩
 ·have hw:Wd (ptE n) (tkE' n):=by
   intro r hr
   rw [q4m,tkE']
   rcases qgs h with ⟨h0,h1,h2,h3⟩ | ⟨h0,h1,h2,h3⟩ | ⟨h0,h1,h2,h3⟩ | ⟨h0,h1,h2,h3,h4,h5⟩ | ⟨h0,h1,h2,h3,h4⟩ | ⟨h0,h1,h2,h3,h4,h5,h6⟩ | ⟨h0,h1,h2,h3,h4,h5,h6⟩ | ⟨h0,h1,h2,h3,h4,h5,h6⟩
   ·simp only [h0,Int.reduceEq,if_false,if_true]
    rw [qlz h1 hr];cases tokW r<;>rfl
   ·simp only [h0,Int.reduceEq,if_false,if_true]
    rw [qkb h1 hr];cases tokW r<;>rfl
   ·simp only [h0,Int.reduceEq,if_false,if_true]
    rw [q5m h3 (qbh9 hwf) hr];cases tokW r<;>rfl
   ·have hl:n.kids.length = 2:=by rw [h2];rfl
    have m0:ekN n 0∈n.kids:=qf (by omega)
    have m1:ekN n 1∈n.kids:=qf (by omega)
    simp only [h0,Int.reduceEq,if_false,if_true,hl,show (0 < 2) = True by simp,show (1 < 2) = True by simp,List.append_assoc,List.cons_append]
    have w0:=qk9 (hx _ m0 h4) (qba (ekN n 0) || decide ((ekN n 0).kind = 24))
    have w1:=qk9 (hx _ m1 h5) (qba (ekN n 1))
    refine (w0 _ (qdc _)).trans ?_
    rw [qb6]
    refine (congrArg _ (w1 r hr)).trans ?_
    cases tokW r<;>simp [opK,agK]
   ·have hl:n.kids.length = 1:=by rw [h2];rfl
    have m0:ekN n 0∈n.kids:=qf (by omega)
    simp only [h0,Int.reduceEq,if_false,if_true,hl,Nat.zero_lt_succ,List.append_assoc,List.cons_append,List.nil_append]
    rw [qb7i,qb6,qlz h1 (qdc _),qb6,q34,qb6]
    refine (congrArg (fun o=>((Option.map _ o).map _).map _) (hx _ m0 h4 r hr)).trans ?_
    cases tokW r<;>simp [vaT,arW]
   ·have hl:0 < n.kids.length:=by rw [h2];simp
    have m1:ekN n (n.kids.length - 1)∈n.kids:=qf (by omega)
    have hm:∀ x∈eitN n,x∈n.kids:=fun x hx=>List.mem_of_mem_take hx
    simp only [h0,Int.reduceEq,if_false,if_true,hl,List.append_assoc,List.cons_append,List.nil_append]
    rw [qbdk,qb6]
    refine (congrArg _ (qbzj qbir h5 (fun x hx=>hB x (hm x hx) (h4 x hx)) _)).trans ?_
    rw [qb6,qb0s,qb6]
    refine (congrArg (fun o=>((Option.map _ o).map _).map _) (hx _ m1 h6 r hr)).trans ?_
    cases tokW r<;>simp
   ·have hl:0 < n.kids.length:=by rw [h2];simp
    have m0:ekN n 0∈n.kids:=qf (by omega)
    have hm:∀ x∈n.kids.drop 1,x∈n.kids:=fun x hx=>List.mem_of_mem_drop hx
    simp only [h0,Int.reduceEq,if_false,if_true,hl,List.append_assoc,List.cons_append,List.nil_append]
    rw [q6s,qb6]
    refine (congrArg _ (hx _ m0 h4 _ (qdc _))).trans ?_
    rw [qb6,qbwe,qb6]
    refine (congrArg (fun o=>((Option.map _ o).map _).map _) (qbzj qcab h6 (fun x hx=>hL x (hm x hx) (h5 x hx)) r)).trans ?_
    cases tokW r<;>simp
   ·have hl:n.kids.length = 3:=by rw [h2];rfl
    have m0:ekN n 0∈n.kids:=qf (by omega)
    have m1:ekN n 1∈n.kids:=qf (by omega)
    have m2:ekN n 2∈n.kids:=qf (by omega)
    have e0:(0 < 3) = True:=by simp
    have e1:(1 < 3) = True:=by simp
    have e2:(2 < 3) = True:=by simp
    simp only [h0,Int.reduceEq,if_false,if_true,hl,e0,e1,e2,List.append_assoc,List.cons_append,List.nil_append]
    rw [qb4m,qb6]
    refine (congrArg _ (hx _ m0 h4 _ (qdc _))).trans ?_
    rw [qb6,q54,qb6]
    refine (congrArg (fun o=>((Option.map _ o).map _).map _) (hx _ m1 h5 _ (qdc _))).trans ?_
    rw [qb6,q7z,qb6]
    refine (congrArg (fun o=>((((Option.map _ o).map _).map _).map _).map _) (hx _ m2 h6 r hr)).trans ?_
    cases tokW r<;>simp
  have he:tkE n = tkE' n:=by rw [tkE,hw.get];rfl
  exact ⟨by rw [he];exact hw,he⟩
 ·have hw:Wd (ptB n) (tkB' n):=by
   rcases h with h | h
   ·intro r hr
    obtain ⟨h1,_,h3,h4,h5⟩:=qfu h
    have hl:n.kids.length = 1:=by rw [h4];rfl
    have m0:ekN n 0∈n.kids:=qf (by omega)
    rw [qml,tkB',if_pos h1,if_pos h1]
    simp only [hl,Nat.zero_lt_succ,if_true,List.append_assoc,List.cons_append,List.nil_append]
    rw [qlz h3 (qdc _),qb6,qbia]
    refine (congrArg (fun o=>(Option.map _ o).map _) (hx _ m0 h5 r hr)).trans ?_
    cases tokW r<;>simp [vaT]
   ·exact qcdq h
  have he:tkB n = tkB' n:=by rw [tkB,hw.get];rfl
  exact ⟨by rw [he];exact hw,he⟩
 ·have hw:Wd (ptL n) (tkL' n):=by
   intro r hr
   obtain ⟨_,_,_,h4,h5,h6⟩:=qh2 h
   have hl:n.kids.length = 2:=by rw [h4];rfl
   have m0:ekN n 0∈n.kids:=qf (by omega)
   have m1:ekN n 1∈n.kids:=qf (by omega)
   rw [quc,tkL']
   simp only [hl,show (1 < 2) = True by simp,if_true,List.append_assoc,List.cons_append,List.nil_append]
   refine ((wdP _ h5 (qb2 hwf m0)).1 _ (qdc _)).trans ?_
   rw [qb6,q34,qb6]
   refine (congrArg (fun o=>(Option.map _ o).map _) (hx _ m1 h6 r hr)).trans ?_
   cases tokW r<;>simp [arW]
  have he:tkL n = tkL' n:=by rw [tkL,hw.get];rfl
  exact ⟨by rw [he];exact hw,he⟩

theorem ne_ {a b:Int} (h:decide (a = b) = false:=by rfl):a≠b:=of_decide_eq_false h
/-! what is skipped -/
theorem qbk8:∀ n,paW n = true->(enc n).wf->Bal0 (tkP n):=N.ind fun n ih ht hw=>by
 rw [(wdP n ht hw).2,tkP']
 rcases qfq ht with ⟨h,h1,h2,h3⟩ | ⟨h,h1,h2,h3⟩ | ⟨h,h1,h2,h3⟩ | ⟨h,h1,h2,h3⟩
 ·rw [if_neg (by omega),if_neg (by omega),h2]
  exact qe5 (by rw [qil,if_pos h];exact ne_) (by rw [qil,if_pos h];exact ne_)
 ·rw [if_pos h]
  exact ⟨qib (by decide) (by decide),fun r=>by rw [List.singleton_append,qck,if_neg (by decide),if_neg (by decide),if_neg (by decide),if_neg (by decide),if_neg (by decide)]⟩
 ·rw [if_neg (by omega),if_pos h]
  exact qe5 (by show (3:Int)≠4;decide) (by show (3:Int)≠5;decide)
 ·rw [if_neg (by omega),if_neg (by omega)]
  exact (qe5 (t:=qil n) (by rw [qil,if_neg (by omega)];exact ne_) (by rw [qil,if_neg (by omega)];exact ne_)).app (qtj n.kids fun x hx=>qp6 (ih x hx (h2 x hx) (qb2 hw hx)) _)
theorem qdi {t:T} {ts:List T} (h:Bal [t]) (k:Bal ts):Bal (t :: ts):=h.app k
theorem q3l (n:N):Bal [vaT n]:=(qe5 (t:=vaT n) (by show (1:Int)≠4;decide) (by show (1:Int)≠5;decide)).1
theorem q8a {ts:List T} (h:Bal ts) (b:Bool):Bal (cloK b ts):=by
 cases b with
 | true=>exact h
 | false =>
  intro x r d hd
  have e:cloK false ts ++ r = mkT [40] :: (ts ++ mkT [41] :: r):=by simp [cloK]
  rw [e];exact qrr (by decide) (by decide) (by decide) h x r d (by omega)
theorem q59 {l:List (List T)} (h:∀ a∈l,Bal a):Bal (semK l):=fun x r d hd=>by
 have e:semK l ++ r = mkT [123] :: (qdu (mkT [59]) l ++ mkT [125] :: r):=by simp [semK]
 rw [e];exact qrr (by decide) (by decide) (by decide) (qli (qib (by decide) (by decide)) l h) x r d (by omega)
theorem qb9k {l:List N} (h:∀ x∈l,prW x = true):Bal (ctK l):=by
 rw [ctK]
 split
 ·exact bal_nil.1
 ·refine Bal.app (q8a (qli (qib (by decide) (by decide)) _ fun a ha=>?_) _) (qib (by decide) (by decide))
  obtain ⟨x,hx,rfl⟩:=List.mem_map.1 ha
  exact (q3n (h x hx)).1
theorem qb60 {n:N} (h:quW n = true):Bal (tkQ n):=by
 obtain ⟨_,_,_,_,h5,h6⟩:=qll h
 exact (qb9k h5).app (qs3 _ h6).1
theorem balE:∀ n,(enc n).wf->(exW n = true->Bal (tkE n))∧((biW n = true∨sgW n = true)->Bal (tkB n))∧(alW n = true->Bal (tkL n)):=N.ind fun n ih hwf=>by
 have hx:∀ x∈n.kids,exW x = true->Bal (tkE x):=fun x hx h=>(ih x hx (qb2 hwf hx)).1 h
 refine ⟨fun h=>?_,fun h=>?_,fun h=>?_⟩
 ·rw [((wdE n hwf).1 h).2,tkE']
  rcases qgs h with ⟨h0,h1,h2,h3⟩ | ⟨h0,h1,h2,h3⟩ | ⟨h0,h1,h2,h3⟩ | ⟨h0,h1,h2,h3,h4,h5⟩ | ⟨h0,h1,h2,h3,h4⟩ | ⟨h0,h1,h2,h3,h4,h5,h6⟩ | ⟨h0,h1,h2,h3,h4,h5,h6⟩ | ⟨h0,h1,h2,h3,h4,h5,h6⟩
  ·simp only [h0,Int.reduceEq,if_false,if_true]
   exact (qe5 ne_ ne_).1
  ·simp only [h0,Int.reduceEq,if_false,if_true]
   exact (qe5 ne_ ne_).1
  ·simp only [h0,Int.reduceEq,if_false,if_true]
   exact (qe5 (by show (3:Int)≠4;decide) (by show (3:Int)≠5;decide)).1
  ·simp only [h0,Int.reduceEq,if_false,if_true]
   have hl:n.kids.length = 2:=by rw [h2];rfl
   exact (q8a (hx _ (qf (by omega)) h4) _).app (q8a (hx _ (qf (by omega)) h5) _)
  ·simp only [h0,Int.reduceEq,if_false,if_true]
   have hl:n.kids.length = 1:=by rw [h2];rfl
   exact qdi (qib (by decide) (by decide)) (qdi (q3l n) (qdi (qib (by decide) (by decide)) (hx _ (qf (by omega)) h4)))
  ·simp only [h0,Int.reduceEq,if_false,if_true]
   have hl:0 < n.kids.length:=by rw [h2];simp
   refine qdi (qph _ (by decide) (by decide)) ((q59 fun a ha=>?_).app (qdi (qph _ (by decide) (by decide)) (hx _ (qf (by omega)) h6)))
   obtain ⟨x,hxm,rfl⟩:=List.mem_map.1 ha
   have hxk:=List.mem_of_mem_take hxm
   exact (ih x hxk (qb2 hwf hxk)).2.1 (h4 x hxm)
  ·simp only [h0,Int.reduceEq,if_false,if_true]
   have hl:0 < n.kids.length:=by rw [h2];simp
   refine qdi (qph _ (by decide) (by decide)) ((hx _ (qf (by omega)) h4).app (qdi (qph _ (by decide) (by decide)) (q59 fun a ha=>?_)))
   obtain ⟨x,hxm,rfl⟩:=List.mem_map.1 ha
   have hxk:=List.mem_of_mem_drop hxm
   exact (ih x hxk (qb2 hwf hxk)).2.2 (h5 x hxm)
  ·simp only [h0,Int.reduceEq,if_false,if_true]
   have hl:n.kids.length = 3:=by rw [h2];rfl
   exact qdi (qph _ (by decide) (by decide)) ((hx _ (qf (by omega)) h4).app (qdi (qph _ (by decide) (by decide)) ((hx _ (qf (by omega)) h5).app (qdi (qph _ (by decide) (by decide)) (hx _ (qf (by omega)) h6)))))
 ·rw [((wdE n hwf).2.1 h).2,tkB']
  rcases h with h | h
  ·obtain ⟨h1,_,h3,h4,h5⟩:=qfu h
   have hl:n.kids.length = 1:=by rw [h4];rfl
   rw [if_pos h1]
   exact qdi (q3l n) (qdi (qib (by decide) (by decide)) (hx _ (qf (by omega)) h5))
  ·obtain ⟨h1,_,h3,h4,h5⟩:=qfs h
   rw [if_neg (by omega)]
   exact qdi (q3l n) (qdi (qib (by decide) (by decide)) (qb60 h5))
 ·rw [((wdE n hwf).2.2 h).2,tkL']
  obtain ⟨_,_,_,h4,h5,h6⟩:=qh2 h
  have hl:n.kids.length = 2:=by rw [h4];rfl
  exact (qbk8 _ h5 (qb2 hwf (qf (by omega)))).1.app (qdi (qib (by decide) (by decide)) (hx _ (qf (by omega)) h6))
/-! what is read -/
def NoE (r:List T):Prop:=∀ t s,r = t :: s->t.kind≠1∧t.kind≠2∧t.kind≠3∧qce t [40] = false
theorem q5p {w:List UInt8} {s:List T} (h:w≠[40]):NoE (mkT w :: s):=fun t s' e=>by
 obtain ⟨rfl,_⟩:=List.cons.inj e
 exact ⟨ne_,ne_,ne_,by simp [qce,mkT,h]⟩
theorem q3m {w:List UInt8} {s:List T} (h:w≠[40]):NoE (rsT w :: s):=fun t s' e=>by
 obtain ⟨rfl,_⟩:=List.cons.inj e
 exact ⟨ne_,ne_,ne_,by simp [qce,rsT,h]⟩
theorem NoE.A {r:List T} (h:NoE r):NoA r:=fun t s e=>⟨(h t s e).1,(h t s e).2.1,(h t s e).2.2.2⟩
theorem qf8 (w:List UInt8):qce (rsT w) w = true:=by simp [qce,rsT]
theorem qbnt {c:K} {r:List T} (h:Ah c r) (hr:NoE r):begE c = false:=by
 unfold begE qh9
 cases r with
 | nil =>
   obtain ⟨e1,e2⟩:=Ah.nil h
   rw [e1,e2];rfl
 | cons t s =>
   obtain ⟨h1,h2,h3,h5⟩:=hr t s rfl
   rw [h.kind,h.is,if_neg h1,if_neg h2,if_neg h3,h5];rfl
theorem qbmk {c:K} {t:T} {r:List T} (h:Ah c (t :: r)) (ht:t.kind = 1∨t.kind = 2∨t.kind = 3∨qce t [40] = true):begE c = true:=by
 unfold begE qh9
 rw [h.kind,h.is]
 by_cases h1:t.kind = 1
 ·rw [if_pos h1];rfl
 rw [if_neg h1]
 by_cases h2:t.kind = 2
 ·rw [if_pos h2];rfl
 rw [if_neg h2]
 by_cases h3:t.kind = 3
 ·rw [if_pos h3];rfl
 rw [if_neg h3]
 rcases ht with e | e | e | e
 ·exact absurd e h1
 ·exact absurd e h2
 ·exact absurd e h3
 ·rw [e];simp
theorem qw7 {n:N} (h:exW n = true) (hl:n.kids = []):∃ t,tkE' n = [t]∧(t.kind = 1∨t.kind = 2∨t.kind = 3)∧n.kind≠24∧∀ c r,Ah c (t :: r)->∃ x,qh9 c = some x∧NS x n:=by
 rcases qgs h with ⟨h0,h1,h2,h3⟩ | ⟨h0,h1,h2,h3⟩ | ⟨h0,h1,h2,h3⟩ | ⟨h0,h1,h2,h3,h4,h5⟩ | ⟨h0,h1,h2,h3,h4⟩ | ⟨h0,h1,h2,h3,h4,h5,h6⟩ | ⟨h0,h1,h2,h3,h4,h5,h6⟩ | ⟨h0,h1,h2,h3,h4,h5,h6⟩
 ·refine ⟨⟨1,0,0,n.text⟩,by simp only [tkE',h0,Int.reduceEq,if_false,if_true],.inl rfl,by omega,fun c r hc=>?_⟩
  refine ⟨qkc c 21 [],by unfold qh9;rw [if_pos hc.kind],qeq h0.symm h3.symm hc.text (by rw [hl];rfl)⟩
 ·refine ⟨⟨2,0,0,n.text⟩,by simp only [tkE',h0,Int.reduceEq,if_false,if_true],.inr (.inl rfl),by omega,fun c r hc=>?_⟩
  have hk:=hc.kind
  refine ⟨qkc c 22 [],by unfold qh9;rw [if_neg (by rw [hk];exact ne_),if_pos hk],qeq h0.symm h3.symm hc.text (by rw [hl];rfl)⟩
 ·refine ⟨intT n.num,by simp only [tkE',h0,Int.reduceEq,if_false,if_true],.inr (.inr rfl),by omega,fun c r hc=>?_⟩
  have hk:=hc.kind
  refine ⟨.mk 23 (qs c).pos (qs c).num [] [],by unfold qh9;rw [if_neg (by rw [hk];exact ne_),if_neg (by rw [hk];exact ne_),if_pos (by rw [hk];rfl)],qeq h0.symm hc.num h1.symm (by rw [hl];rfl)⟩
 ·rw [hl] at h2;cases h2
 ·rw [hl] at h2;cases h2
 ·rw [hl] at h2;exact absurd h2.symm (by simp)
 ·rw [hl] at h2;cases h2
 ·rw [hl] at h2;cases h2
section
variable {rec:K->K×Option N}
theorem qbhs {n:N} (ht:exW n = true) (hw:(enc n).wf) {b:Bool} (hb:b = true->n.kids = []) {c:K} {r:List T} (h:Ah c (cloK b (tkE n) ++ r)) (hn:b = false->c.nest < 200)
 (ih:b = false->∀ d,Ah d (tkE n ++ mkT [41] :: r)->rest d < rest c->d.nest = c.nest + 1->Got d (rec d) n (mkT [41] :: r)):Got c (qx rec c) n r:=by
 unfold qx
 cases hbb:b with
 | true =>
   obtain ⟨t,e,_,_,hleaf⟩:=qw7 ht (hb hbb)
   rw [hbb,cloK,if_pos rfl,((wdE n hw).1 ht).2,e,List.singleton_append] at h
   obtain ⟨x,e1,e2⟩:=hleaf c r h
   obtain ⟨_,h2,h3⟩:=h.cons
   rw [if_pos (by rw [e1];rfl)]
   exact ⟨x,e1,e2,h2,h3⟩
 | false =>
   rw [hbb,cloK,if_neg Bool.false_ne_true,List.cons_append,List.append_assoc,List.singleton_append] at h
   have hki:=h.kind
   have hlf:qh9 c = none:=by
    unfold qh9
    rw [hki,if_neg (by decide),if_neg (by decide),if_neg (by decide)]
   rw [if_neg (by rw [hlf];decide),if_pos (by rw [h.is];exact qbx _)]
   obtain ⟨n1,n2,n3⟩:=h.enter (hn hbb)
   rw [if_pos n1]
   obtain ⟨_,q1,q2⟩:=n2.cons
   have hlt:rest (qi (qd c).1) < rest c:=by rw [q1.len,h.len];simp
   obtain ⟨x,g1,g2,g3,g4⟩:=ih hbb _ q1 hlt (q2.trans n3)
   rw [if_pos (by rw [g1];rfl),g3.want (qbx _)]
   dsimp only
   rw [if_pos rfl]
   obtain ⟨_,q3,q4⟩:=g3.cons
   obtain ⟨l1,l2⟩:=q3.leave (m:=c.nest) (by rw [q4,g4,q2,n3])
   exact ⟨x,g1,g2,l1,l2⟩
theorem qz0 {n:N} (ht:exW n = true) (hw:(enc n).wf) {b:Bool} (hb:b = true->n.kids = []):∃ t s,cloK b (tkE n) = t :: s∧(t.kind = 1∨t.kind = 2∨t.kind = 3∨qce t [40] = true):=by
 cases hbb:b with
 | true =>
   obtain ⟨t,e,h1,_,_⟩:=qw7 ht (hb hbb)
   refine ⟨t,[],by rw [cloK,if_pos rfl,((wdE n hw).1 ht).2,e],?_⟩
   rcases h1 with h | h | h
   ·exact .inl h
   ·exact .inr (.inl h)
   ·exact .inr (.inr (.inl h))
 | false=>exact ⟨_,_,by rw [cloK,if_neg Bool.false_ne_true],.inr (.inr (.inr (qbx _)))⟩
theorem qt7 (f:Nat) (c:K) (n:N):qey rec (f + 1) c n = if begE c = true then if (qx rec c).2.isSome = true then qey rec f (qx rec c).1 (appN n ((qx rec c).2.getD N0)) else ((qx rec c).1,appN n ((qx rec c).2.getD N0),false) else (c,n,true):=by rw [qey]
theorem qbe6:∀ (n:N),exW n = true->(enc n).wf->∀ (c:K) (r:List T),Ah c (opK n ++ r)->(n.kids≠[]->c.nest + 2 * dp n≤202) →
 (∀ x:N,x.kids≠[]->dp x + (if n.kind = 24 then 1 else 0)≤dp n->exW x = true->(enc x).wf->∀ d s,Ah d (tkE x ++ mkT [41] :: s)->rest d < rest c->d.nest = c.nest + 1->Got d (rec d) x (mkT [41] :: s)) →
 ∃ x c' g,NS x n∧Ah c' r∧c'.nest = c.nest∧rest c' + 1≤g∧rest c' < rest c∧qg7 rec c = qey rec g c' x:=N.ind fun n ihn ht hw c r h hn ih=>by
 by_cases hk:n.kind = 24
 ·have hk':=hk
  obtain ⟨h1,h2,h3,h4,h5⟩:n.text = []∧n.kids = [ekN n 0,ekN n 1]∧n.num = 0∧exW (ekN n 0) = true∧exW (ekN n 1) = true:=by
   rcases qgs ht with ⟨h,_⟩ | ⟨h,_⟩ | ⟨h,_⟩ | ⟨h,h1,h2,h3,h4,h5⟩ | ⟨h,_⟩ | ⟨h,_⟩ | ⟨h,_⟩ | ⟨h,_⟩<;>first | omega | exact ⟨h1,h2,h3,h4,h5⟩
  have hl:n.kids.length = 2:=by rw [h2];rfl
  have m0:ekN n 0∈n.kids:=qf (by omega)
  have m1:ekN n 1∈n.kids:=qf (by omega)
  have hne:n.kids≠[]:=by rw [h2];simp
  have hnest:=hn hne
  have d0:=qcm m0
  have d1:=qcm m1
  have hto:opK n = opK (ekN n 0) ++ agK (ekN n 1):=by
   rw [opK,decide_eq_true hk,Bool.or_true,cloK,if_pos rfl,((wdE n hw).1 ht).2]
   simp only [tkE',hk,Int.reduceEq,if_false,if_true]
  rw [hto,List.append_assoc] at h
  have hb1:qba (ekN n 1) = true->(ekN n 1).kids = []:=fun e=>of_decide_eq_true e
  obtain ⟨x,c',g,s1,s2,s3,s4,s5,s6⟩:=ihn _ m0 h4 (qb2 hw m0) c _ h (fun _=>by omega) fun x hx hdx hxe hxw d s hd hdr hdn=>ih x hx (by rw [if_pos hk];omega) hxe hxw d s hd hdr hdn
  obtain ⟨t,u,e1,e2⟩:=qz0 h5 (qb2 hw m1) hb1
  have hbeg:begE c' = true:=by
   have s2':=s2
   rw [agK,e1,List.cons_append] at s2'
   exact qbmk s2' e2
  obtain ⟨y,g1,g2,g3,g4⟩:=qbhs (rec:=rec) h5 (qb2 hw m1) hb1 (c:=c') (r:=r) s2 (fun hlf=>by
   have:1≤dp (ekN n 1):=qit _
   omega) fun hlf d hd hdr hdn=>ih _ (fun e=>by rw [qba,decide_eq_true e] at hlf;cases hlf) (by rw [if_pos hk];omega) h5 (qb2 hw m1) d r hd (by omega) (by rw [hdn,s3])
  have hlt:rest (qx rec c').1 < rest c':=by
   rw [g3.len,s2.len,agK,e1];simp only [List.length_append,List.length_cons];omega
  obtain ⟨g',rfl⟩:∃ g',g = g' + 1:=⟨g - 1,by omega⟩
  rw [qt7,if_pos hbeg,if_pos (by rw [g1];rfl),g1] at s6
  refine ⟨appN x y,_,g',qeq hk.symm h3.symm h1.symm ?_,g3,g4.trans s3,by omega,by omega,s6⟩
  rw [h2]
  show [qo x,qo y] = [qo _,qo _]
  rw [show qo x = qo (ekN n 0) from s1,show qo y = qo (ekN n 1) from g2]
 ·have hb:qba n = true->n.kids = []:=fun e=>of_decide_eq_true e
  rw [opK,decide_eq_false hk,Bool.or_false] at h
  obtain ⟨y,g1,g2,g3,g4⟩:=qbhs (rec:=rec) ht hw hb h (fun hlf=>by
   have hne:n.kids≠[]:=fun e=>by rw [qba,decide_eq_true e] at hlf;cases hlf
   have:=hn hne
   obtain ⟨x,l,e⟩:∃ x l,n.kids = x :: l:=by
    cases hq:n.kids with
    | nil=>exact absurd hq hne
    | cons x l=>exact ⟨x,l,rfl⟩
   have h1:=qcm (n:=n) (x:=x) (by rw [e];simp)
   have h2:=qit x
   omega) fun hlf d hd hdr hdn=>ih n (fun e=>by rw [qba,decide_eq_true e] at hlf;cases hlf) (by rw [if_neg hk];omega) ht hw d r hd hdr hdn
  obtain ⟨t,u,e1,e2⟩:=qz0 ht hw hb
  have hlt:rest (qx rec c).1 < rest c:=by
   rw [g3.len,h.len,e1];simp only [List.length_append,List.length_cons];omega
  refine ⟨y,_,rest (qx rec c).1 + 1,g2,g3,g4,Nat.le_refl _,hlt,?_⟩
  unfold qg7
  rw [if_pos (by rw [g1];rfl),g1];rfl
end

def Got3 (c:K) (p:R3) (n:N) (r:List T):Prop:=p.2.2 = true∧NS p.2.1 n∧Ah p.1 r∧p.1.nest = c.nest
theorem q7k {c:K} {p:R3} {n:N} {r:List T} (h:Got3 c p n r):Got c (toO p) n r:=⟨p.2.1,by rw [toO,if_pos h.1],h.2.1,h.2.2.1,h.2.2.2⟩
theorem qpg {c:K} {p:K×Option N} {n:N} {r:List T} (h:Got c p n r):Got3 c (ofO p) n r:=by
 obtain ⟨x,h1,h2,h3,h4⟩:=h
 exact ⟨by rw [ofO,h1];rfl,by rw [ofO,h1];exact h2,h3,h4⟩
def StS (r:List T):Prop:=NoE r∧NoR r∧qck [61,62] r 0 = false
theorem qzo (s:List T):StS (mkT [59] :: s):=⟨q5p (by decide),qmg (by decide),by rw [qck,if_neg (by decide),if_neg (by decide),if_neg (by decide),if_pos (by decide)]⟩
theorem qxf (s:List T):StS (mkT [125] :: s):=⟨q5p (by decide),qmg (by decide),by rw [qck,if_neg (by decide),if_pos (by decide),if_pos (by decide)]⟩
theorem qbtn:StS []:=⟨(fun t s h=>by cases h),(fun t s h=>by cases h),rfl⟩
theorem q0c {rd:K->R3} {g:N->List T} {c0:K}:∀ (l:List N) (f:Nat) (c:K) (acc:List N) (r:List T),l≠[] →
 (∀ x∈l,∀ d s,Ah d (g x ++ s)->StS s->rest d≤rest c0->d.nest = c0.nest->Got3 d (rd d) x s)->(∀ x∈l,∃ t s,g x = t :: s∧qce t [125] = false) →
 Ah c (qdu (mkT [59]) (l.map g) ++ mkT [125] :: r)->l.length < f->rest c≤rest c0->c.nest = c0.nest →
 ∃ xs,(qca rd f c acc).2 = (acc ++ xs,true)∧xs.map qo = l.map qo∧Ah (qca rd f c acc).1 r∧(qca rd f c acc).1.nest = c.nest
 | [],_,_,_,_,h,_,_,_,_,_,_=>absurd rfl h
 | l,0,_,_,_,_,_,_,_,hf,_,_=>by omega
 | [x], f + 1, c, acc, r, _, hrd, hg, h, _, hc, hn => by
   rw [qca]
   obtain ⟨g1,g2,g3,g4⟩:=hrd x (by simp) c _ h (qxf r) hc hn
   have hno:=g3.leave_it (x:=[59]) (by decide)
   rw [if_pos g1,hno]
   dsimp only
   rw [Bool.false_and,if_neg Bool.false_ne_true,g3.want (qbx _)]
   obtain ⟨_,q1,q2⟩:=g3.cons
   exact ⟨[(rd c).2.1],rfl,congrArg (· :: []) g2,q1,q2.trans g4⟩
 | x :: y :: l, f + 1, c, acc, r, _, hrd, hg, h, hf, hc, hn => by
   rw [qca]
   rw [List.map_cons,List.map_cons,qdu,← List.map_cons,List.append_assoc,List.cons_append] at h
   obtain ⟨g1,g2,g3,g4⟩:=hrd x (by simp) c _ h (qzo _) hc hn
   have hyes:=g3.take (x:=[59]) (qbx _)
   obtain ⟨_,q1,q2⟩:=g3.cons
   have hne:isK (qi (rd c).1) [125] = false:=by
    obtain ⟨t,s,e1,e2⟩:=hg y (by simp)
    have hj:∃ u,qdu (mkT [59]) ((y :: l).map g) = t :: u:=by
     cases l with
     | nil=>exact ⟨s,by rw [List.map_singleton,qdu,e1]⟩
     | cons z l=>exact ⟨_,by rw [List.map_cons,List.map_cons,qdu,e1,List.cons_append]⟩
    obtain ⟨u,e3⟩:=hj
    have q1':=q1
    rw [e3,List.cons_append] at q1'
    rw [q1'.is,e2]
   rw [if_pos g1,hyes]
   dsimp only
   rw [hne,Bool.not_false,Bool.and_true,if_pos rfl]
   have hlt:rest (qi (rd c).1)≤rest c:=by rw [q1.len,h.len];simp only [List.length_append,List.length_cons];omega
   obtain ⟨xs,k1,k2,k3,k4⟩:=q0c (y :: l) f _ (acc ++ [(rd c).2.1]) r (by simp) (fun z hz=>hrd z (by simp at hz ⊢;exact .inr hz)) (fun z hz=>hg z (by simp at hz ⊢;exact .inr hz)) q1 (by simp at hf ⊢;omega) (by omega) (by rw [q2,g4,hn])
   refine ⟨(rd c).2.1 :: xs,by rw [k1];simp,?_,k3,k4.trans (q2.trans g4)⟩
   rw [List.map_cons,List.map_cons,k2];exact congrArg (· :: _) g2
theorem qbgl {t:T} (l:List (List T)):l.length≤(qdu t l).length + 1:=by
 induction l with
 | nil=>simp
 | cons a m ih => cases m with
   | nil=>simp
   | cons b m =>
     rw [qdu]
     simp only [List.length_append,List.length_cons] at ih ⊢
     omega
theorem q9d {rd:K->R3} {g:N->List T} {l:List N} (hl:l≠[]) {c:K} {r:List T} (h:Ah c (semK (l.map g) ++ r)) (hg:∀ x∈l,∃ t s,g x = t :: s∧qce t [125] = false)
 (hrd:∀ x∈l,∀ d s,Ah d (g x ++ s)->StS s->rest d < rest c->d.nest = c.nest->Got3 d (rd d) x s) :
 ∃ xs,(qbe rd c).2 = (xs,true)∧xs.map qo = l.map qo∧Ah (qbe rd c).1 r∧(qbe rd c).1.nest = c.nest:=by
 rw [semK,List.cons_append,List.append_assoc,List.singleton_append] at h
 obtain ⟨_,q1,q2⟩:=h.cons
 have hlt:rest (qi c) < rest c:=by rw [q1.len,h.len];simp
 unfold qbe
 rw [h.want (qbx _)]
 dsimp only
 rw [if_pos rfl]
 have hfl:l.length < rest (qi c) + 1:=by
  have:=qbgl (t:=mkT [59]) (l.map g)
  rw [List.length_map] at this
  rw [q1.len];simp only [List.length_append,List.length_cons];omega
 obtain ⟨xs,k1,k2,k3,k4⟩:=q0c (rd:=rd) (g:=g) (c0:=qi c) l (rest (qi c) + 1) (qi c) [] r hl (fun x hx d s hd hs hr hn=>hrd x hx d s hd hs (by omega) (by rw [hn,q2])) hg q1 hfl (Nat.le_refl _) rfl
 rw [List.nil_append] at k1
 exact ⟨xs,k1,k2,k3,k4.trans q2⟩
section
variable {rec:K->K×Option N} {b:Nat} (IH:∀ (m:N) (d:K) (s:List T),exW m = true->(enc m).wf->Ah d (tkE m ++ s)->NoE s->rest d < b->d.nest + 2 * dp m≤201->Got d (rec d) m s)
include IH
theorem qz5 {n:N} (ht:exW n = true) (hw:(enc n).wf) (hk:n.kind = 24∨n.kids = []) {c:K} {r:List T} (h:Ah c (tkE n ++ r)) (hr:NoE r) (hb:rest c≤b) (hn:c.nest + 2 * dp n≤202):Got3 c (qg7 rec c) n r:=by
 have hop:opK n = tkE n:=by
  rw [opK,cloK]
  rcases hk with hk | hk
  ·rw [decide_eq_true hk,Bool.or_true,if_pos rfl]
  ·rw [qba,decide_eq_true hk,Bool.true_or,if_pos rfl]
 rw [← hop] at h
 obtain ⟨x,c',g,s1,s2,s3,s4,s5,s6⟩:=qbe6 (rec:=rec) n ht hw c r h (fun _=>hn) fun x hx hdx hxe hxw d s hd hdr hdn=>IH x d _ hxe hxw hd (q5p (by decide)) (by omega) (by
  rcases hk with hk | hk
  ·rw [if_pos hk] at hdx;omega
  ·have h1:dp n = 1:=by rw [qks,hk];rfl
   have h2:2≤dp x:=qth (decide_eq_false hx)
   omega)
 rw [s6]
 obtain ⟨g',rfl⟩:∃ g',g = g' + 1:=⟨g - 1,by omega⟩
 rw [qt7,qbnt s2 hr,if_neg Bool.false_ne_true]
 exact ⟨rfl,s1,s2,s3⟩
theorem q5x {n:N} (ht:exW n = true) (hw:(enc n).wf) {x:List UInt8} {c:K} {r:List T} (h:Ah c (mkT x :: (tkE n ++ r))) (hr:NoE r) (hb:rest c≤b) (hn:c.nest + 2 * dp n≤201) (f:Nat):Got3 c (qcq rec x (f + 1) c) n r:=by
 obtain ⟨_,q1,q2⟩:=h.cons
 have hlt:rest (qi c) < rest c:=by rw [q1.len,h.len];simp
 rw [qcq,if_neg (by rw [h.kind];exact ne_),h.want (qbx _)]
 dsimp only
 rw [if_pos rfl]
 obtain ⟨g1,g2,g3,g4⟩:=qpg (IH n (qi c) r ht hw q1 hr (by omega) (by rw [q2];exact hn))
 exact ⟨g1,g2,g3,g4.trans q2⟩
theorem qx5 {n:N} (ht:biW n = true∨sgW n = true) (hw:(enc n).wf) {c:K} {r:List T} (h:Ah c (tkB n ++ r)) (hr:StS r) (hb:rest c≤b) (hn:c.nest + 2 * dp n≤203):Got c (qb9 rec c) n r:=by
 rw [((wdE n hw).2.1 ht).2,tkB'] at h
 rcases ht with ht | ht
 ·obtain ⟨h1,h2,h3,h4,h5⟩:=qfu ht
  have hl:n.kids.length = 1:=by rw [h4];rfl
  have m0:ekN n 0∈n.kids:=qf (by omega)
  have d0:=qcm m0
  rw [if_pos h1,List.cons_append,List.cons_append] at h
  obtain ⟨k1,k2⟩:=h.kindK (k:=1) rfl
  have hte:=h.text
  obtain ⟨_,q1,q2⟩:=h.cons
  have hlt:rest (qi c) < rest c:=by rw [q1.len,h.len];simp
  have hno:=q1.leave_it (x:=[58,58]) (by decide)
  unfold qb9
  rw [k1,k2]
  dsimp only
  rw [if_pos rfl,hno]
  dsimp only
  rw [if_neg Bool.false_ne_true]
  obtain ⟨x,g1,g2,g3,g4⟩:=q7k (q5x IH h5 (qb2 hw m0) q1 hr.1 (by omega) (by rw [q2];omega) (rest (qi c)))
  rw [g1]
  refine ⟨_,rfl,qeq h1.symm h2.symm hte ?_,g3,g4.trans q2⟩
  rw [h4];exact congrArg (· :: []) g2
 ·obtain ⟨h1,h2,h3,h4,h5⟩:=qfs ht
  have hl:n.kids.length = 1:=by rw [h4];rfl
  have m0:ekN n 0∈n.kids:=qf (by omega)
  have d0:=qcm m0
  rw [if_neg (by omega),List.cons_append,List.cons_append] at h
  obtain ⟨k1,k2⟩:=h.kindK (k:=1) rfl
  have hte:=h.text
  obtain ⟨_,q1,q2⟩:=h.cons
  have hyes:=q1.take (x:=[58,58]) (qbx _)
  obtain ⟨_,q3,q4⟩:=q1.cons
  unfold qb9
  rw [k1,k2]
  dsimp only
  rw [if_pos rfl,hyes]
  dsimp only
  rw [if_pos rfl]
  obtain ⟨x,g1,g2,g3,g4⟩:=qbq9 h5 q3 hr.1.A hr.2.1 hr.2.2 (f:=rest (qi (qi c)) + 2) (by omega) (by rw [q4,q2];omega)
  rw [g1]
  refine ⟨_,rfl,qeq h1.symm h2.symm hte ?_,g3,g4.trans (q4.trans q2)⟩
  rw [h4];exact congrArg (· :: []) g2
theorem qb7g {n:N} (ht:alW n = true) (hw:(enc n).wf) {c:K} {r:List T} (h:Ah c (tkL n ++ r)) (hr:NoE r) (hb:rest c≤b) (hn:c.nest + 2 * dp n≤203):Got3 c (qep rec c) n r:=by
 rw [((wdE n hw).2.2 ht).2,tkL'] at h
 obtain ⟨h1,h2,h3,h4,h5,h6⟩:=qh2 ht
 have hl:n.kids.length = 2:=by rw [h4];rfl
 have m0:ekN n 0∈n.kids:=qf (by omega)
 have m1:ekN n 1∈n.kids:=qf (by omega)
 have d0:=qcm m0
 have d1:=qcm m1
 rw [List.append_assoc,List.cons_append] at h
 obtain ⟨x,g1,g2,g3,g4⟩:=q67 (rest c + 2) _ c _ h5 (qb2 hw m0) h (qbho (by decide) (by decide)) (by omega) (by omega)
 unfold qep altB
 rw [if_pos (by rw [g1];rfl),g1,g3.want (x:=[45,62]) (qbx _)]
 dsimp only [Option.getD_some]
 unfold altC
 rw [if_pos rfl]
 obtain ⟨_,q1,q2⟩:=g3.cons
 have hlt:rest (qi (qcg (rest c + 2) c).1) < rest c:=by rw [q1.len,h.len];simp only [List.length_append,List.length_cons];omega
 obtain ⟨y,k1,k2,k3,k4⟩:=IH _ _ r h6 (qb2 hw m1) q1 hr (by omega) (by rw [q2,g4];omega)
 refine ⟨by dsimp only;rw [k1];rfl,?_,k3,k4.trans (q2.trans g4)⟩
 dsimp only
 rw [k1]
 refine qeq h1.symm h3.symm h2.symm ?_
 rw [h4]
 show [qo x,qo y] = [qo _,qo _]
 rw [show qo x = qo (ekN n 0) from g2,show qo y = qo (ekN n 1) from k2]
end

theorem qnv {n:N} (ht:biW n = true∨sgW n = true) (hw:(enc n).wf):∃ t s,tkB n = t :: s∧qce t [125] = false:=by
 rw [((wdE n hw).2.1 ht).2,tkB']
 split<;>exact ⟨_,_,rfl,qcy (t:=vaT n) ne_ ne_ _⟩
theorem qbbb {n:N} (ht:paW n = true) (hw:(enc n).wf):∃ t s,tkP n = t :: s∧qce t [125] = false:=by
 rw [(wdP n ht hw).2,tkP']
 rcases qfq ht with ⟨h,h1,h2,h3⟩ | ⟨h,h1,h2,h3⟩ | ⟨h,h1,h2,h3⟩ | ⟨h,h1,h2,h3⟩
 ·rw [if_neg (by omega),if_neg (by omega)]
  exact ⟨_,_,rfl,qcy (by rw [qil,if_pos h];exact ne_) (by rw [qil,if_pos h];exact ne_) _⟩
 ·rw [if_pos h];exact ⟨_,_,rfl,by decide⟩
 ·rw [if_neg (by omega),if_pos h];exact ⟨_,_,rfl,qcy (t:=intT n.num) ne_ ne_ _⟩
 ·rw [if_neg (by omega),if_neg (by omega)]
  exact ⟨_,_,rfl,qcy (by rw [qil,if_neg (by omega)];exact ne_) (by rw [qil,if_neg (by omega)];exact ne_) _⟩
theorem qbbh {n:N} (ht:alW n = true) (hw:(enc n).wf):∃ t s,tkL n = t :: s∧qce t [125] = false:=by
 rw [((wdE n hw).2.2 ht).2,tkL']
 obtain ⟨_,_,_,h4,h5,_⟩:=qh2 ht
 have hl:n.kids.length = 2:=by rw [h4];rfl
 obtain ⟨t,s,e,h⟩:=qbbb h5 (qb2 hw (qf (by omega)))
 exact ⟨t,_,by rw [e,List.cons_append],h⟩
theorem qkt {t:T} {a x:List UInt8} (h:t = rsT a) (hx:a≠x):qce t x = false:=by subst h;simp [qce,rsT,hx]
section
variable {rec:K->K×Option N} {b:Nat} (IH:∀ (m:N) (d:K) (s:List T),exW m = true->(enc m).wf->Ah d (tkE m ++ s)->NoE s->rest d < b->d.nest + 2 * dp m≤201->Got d (rec d) m s)
include IH
theorem qbxs {n:N} (ht:exW n = true) (hw:(enc n).wf) {c:K} {r:List T} (h:Ah c (tkE n ++ r)) (hr:NoE r) (hb:rest c≤b) (hn:c.nest + 2 * dp n≤202):Got3 c (qen rec c) n r:=by
 have h':=h
 rw [((wdE n hw).1 ht).2,tkE'] at h
 unfold qen
 rcases qgs ht with ⟨h0,h1,h2,h3⟩ | ⟨h0,h1,h2,h3⟩ | ⟨h0,h1,h2,h3⟩ | ⟨h0,h1,h2,h3,h4,h5⟩ | ⟨h0,h1,h2,h3,h4⟩ | ⟨h0,h1,h2,h3,h4,h5,h6⟩ | ⟨h0,h1,h2,h3,h4,h5,h6⟩ | ⟨h0,h1,h2,h3,h4,h5,h6⟩
 ·simp only [h0,Int.reduceEq,if_false,if_true,List.cons_append] at h
  rw [h.leave_it (qcy ne_ ne_ _)]
  dsimp only
  rw [if_neg Bool.false_ne_true,h.leave_it (qcy ne_ ne_ _)]
  dsimp only
  rw [if_neg Bool.false_ne_true,h.leave_it (qcy ne_ ne_ _)]
  dsimp only
  rw [if_neg Bool.false_ne_true,h.leave_it (qcy ne_ ne_ _)]
  dsimp only
  rw [if_neg Bool.false_ne_true]
  exact qz5 IH ht hw (.inr h2) h' hr hb hn
 ·simp only [h0,Int.reduceEq,if_false,if_true,List.cons_append] at h
  rw [h.leave_it (qcy ne_ ne_ _)]
  dsimp only
  rw [if_neg Bool.false_ne_true,h.leave_it (qcy ne_ ne_ _)]
  dsimp only
  rw [if_neg Bool.false_ne_true,h.leave_it (qcy ne_ ne_ _)]
  dsimp only
  rw [if_neg Bool.false_ne_true,h.leave_it (qcy ne_ ne_ _)]
  dsimp only
  rw [if_neg Bool.false_ne_true]
  exact qz5 IH ht hw (.inr h2) h' hr hb hn
 ·simp only [h0,Int.reduceEq,if_false,if_true,List.cons_append] at h
  rw [h.leave_it (qcy ne_ ne_ _)]
  dsimp only
  rw [if_neg Bool.false_ne_true,h.leave_it (qcy ne_ ne_ _)]
  dsimp only
  rw [if_neg Bool.false_ne_true,h.leave_it (qcy ne_ ne_ _)]
  dsimp only
  rw [if_neg Bool.false_ne_true,h.leave_it (qcy ne_ ne_ _)]
  dsimp only
  rw [if_neg Bool.false_ne_true]
  exact qz5 IH ht hw (.inr h2) h' hr hb hn
 ·-- an application: its first word
  have hfst:∀ m:N,exW m = true->(enc m).wf->∃ t s,opK m = t :: s∧∀ x:List UInt8,x≠[40]->qce t x = false:=N.ind fun m ihm hm hmw=>by
   by_cases hk:m.kind = 24
   ·obtain ⟨q2,q4⟩:m.kids = [ekN m 0,ekN m 1]∧exW (ekN m 0) = true:=by
     rcases qgs hm with ⟨h,_⟩ | ⟨h,_⟩ | ⟨h,_⟩ | ⟨h,h1,h2,h3,h4,h5⟩ | ⟨h,_⟩ | ⟨h,_⟩ | ⟨h,_⟩ | ⟨h,_⟩<;>first | omega | exact ⟨h2,h4⟩
    have hl:m.kids.length = 2:=by rw [q2];rfl
    have m0:ekN m 0∈m.kids:=qf (by omega)
    obtain ⟨t,s,e,hx⟩:=ihm _ m0 q4 (qb2 hmw m0)
    refine ⟨t,s ++ agK (ekN m 1),?_,hx⟩
    rw [opK,decide_eq_true hk,Bool.or_true,cloK,if_pos rfl,((wdE m hmw).1 hm).2]
    simp only [tkE',hk,Int.reduceEq,if_false,if_true]
    rw [e,List.cons_append]
   ·cases hlf:qba m with
    | true =>
      obtain ⟨t,e,hkd,_,_⟩:=qw7 hm (of_decide_eq_true hlf)
      refine ⟨t,[],by rw [opK,hlf,Bool.true_or,cloK,if_pos rfl,((wdE m hmw).1 hm).2,e],fun x _=>qcy (by rcases hkd with h | h | h<;>rw [h]<;>decide) (by rcases hkd with h | h | h<;>rw [h]<;>decide) x⟩
    | false =>
      exact ⟨mkT [40],_,by rw [opK,hlf,decide_eq_false hk,Bool.or_self,cloK,if_neg Bool.false_ne_true],fun x hx=>by simp [qce,mkT,Ne.symm hx]⟩
  obtain ⟨t,s,e,hx⟩:=hfst n ht hw
  have hop:opK n = tkE n:=by rw [opK,decide_eq_true h0,Bool.or_true,cloK,if_pos rfl]
  have h2':=h'
  rw [← hop,e,List.cons_append] at h2'
  rw [h2'.leave_it (hx _ (by decide))]
  dsimp only
  rw [if_neg Bool.false_ne_true,h2'.leave_it (hx _ (by decide))]
  dsimp only
  rw [if_neg Bool.false_ne_true,h2'.leave_it (hx _ (by decide))]
  dsimp only
  rw [if_neg Bool.false_ne_true,h2'.leave_it (hx _ (by decide))]
  dsimp only
  rw [if_neg Bool.false_ne_true]
  exact qz5 IH ht hw (.inl h0) h' hr hb hn
 ·have hl:n.kids.length = 1:=by rw [h2];rfl
  have m0:ekN n 0∈n.kids:=qf (by omega)
  have d0:=qcm m0
  simp only [h0,Int.reduceEq,if_false,if_true,List.cons_append] at h
  rw [h.take (qbx _)]
  dsimp only
  obtain ⟨_,q1,q2⟩:=h.cons
  have hk1:(qs (qi c)).kind = 1:=q1.kind
  have hte:=q1.text
  rw [if_pos rfl,if_pos hk1]
  obtain ⟨_,q3,q4⟩:=q1.cons
  have hl1:rest (qi c) < rest c:=by rw [q1.len,h.len];simp
  have hl2:rest (qi (qi c)) < rest (qi c):=by rw [q3.len,q1.len];simp
  rw [qcq,if_pos hk1]
  obtain ⟨g,hg⟩:∃ g,rest (qi c) = g + 1:=⟨rest (qi c) - 1,by omega⟩
  rw [hg]
  obtain ⟨g1,g2,g3,g4⟩:=q5x IH h4 (qb2 hw m0) q3 hr (by omega) (by rw [q4,q2];omega) g
  refine ⟨g1,qeq h0.symm h3.symm hte ?_,g3,g4.trans (q4.trans q2)⟩
  rw [h2];exact congrArg (· :: []) g2
 ·have hl:0 < n.kids.length:=by rw [h2];simp
  have m1:ekN n (n.kids.length - 1)∈n.kids:=qf (by omega)
  have d1:=qcm m1
  have hm:∀ x∈eitN n,x∈n.kids:=fun x hx=>List.mem_of_mem_take hx
  simp only [h0,Int.reduceEq,if_false,if_true,List.cons_append,List.append_assoc] at h
  rw [h.leave_it (qkt rfl (by decide))]
  dsimp only
  rw [if_neg Bool.false_ne_true,h.take (x:=[108,101,116]) (qf8 _)]
  dsimp only
  rw [if_pos rfl]
  obtain ⟨_,q1,q2⟩:=h.cons
  have hl1:rest (qi c) < rest c:=by rw [q1.len,h.len];simp
  obtain ⟨xs,k1,k2,k3,k4⟩:=q9d (rd:=fun c=>ofO (qb9 rec c)) (g:=tkB) h5 q1 (fun x hx=>qnv (h4 x hx) (qb2 hw (hm x hx))) fun x hx d s hd hs hdr hdn=>qpg (qx5 IH (h4 x hx) (qb2 hw (hm x hx)) hd hs (by omega) (by have:=qcm (hm x hx);omega))
  obtain ⟨k5,k6⟩:=Prod.ext_iff.1 k1
  dsimp only at k5 k6
  unfold qkm letB
  rw [if_pos k6,k3.want (x:=[105,110]) (qf8 _)]
  unfold letC
  rw [if_pos rfl]
  obtain ⟨_,q3,q4⟩:=k3.cons
  have hl3:rest (qi (qbe (fun c=>ofO (qb9 rec c)) (qi c)).1) < rest c:=by rw [q3.len,h.len];simp only [List.length_append,List.length_cons];omega
  obtain ⟨y,j1,j2,j3,j4⟩:=IH _ _ r h6 (qb2 hw m1) q3 hr (by omega) (by rw [q4,k4,q2];omega)
  refine ⟨by dsimp only;rw [j1];rfl,?_,j3,j4.trans (q4.trans (k4.trans q2))⟩
  dsimp only
  rw [j1,k5]
  refine qeq h0.symm h3.symm h1.symm ?_
  rw [h2]
  show (xs ++ [y]).map qo = _
  rw [List.map_append,List.map_append,k2]
  exact congrArg (_ ++ [·]) j2
 ·have hl:0 < n.kids.length:=by rw [h2];simp
  have m0:ekN n 0∈n.kids:=qf (by omega)
  have d0:=qcm m0
  have hm:∀ x∈n.kids.drop 1,x∈n.kids:=fun x hx=>List.mem_of_mem_drop hx
  simp only [h0,Int.reduceEq,if_false,if_true,List.cons_append,List.append_assoc] at h
  rw [h.leave_it (qkt rfl (by decide))]
  dsimp only
  rw [if_neg Bool.false_ne_true,h.leave_it (qkt rfl (by decide))]
  dsimp only
  rw [if_neg Bool.false_ne_true,h.take (x:=[99,97,115,101]) (qf8 _)]
  dsimp only
  rw [if_pos rfl]
  obtain ⟨_,q1,q2⟩:=h.cons
  have hl1:rest (qi c) < rest c:=by rw [q1.len,h.len];simp
  obtain ⟨y,j1,j2,j3,j4⟩:=IH _ _ _ h4 (qb2 hw m0) q1 (q3m (by decide)) (by omega) (by rw [q2];omega)
  unfold qhw
  rw [if_pos (by rw [j1];rfl),j1,j3.want (x:=[111,102]) (qf8 _)]
  dsimp only [Option.getD_some]
  unfold q7o
  rw [if_pos rfl]
  obtain ⟨_,q3,q4⟩:=j3.cons
  have hl3:rest (qi (rec (qi c)).1) < rest c:=by rw [q3.len,h.len];simp only [List.length_append,List.length_cons];omega
  obtain ⟨xs,k1,k2,k3,k4⟩:=q9d (rd:=qep rec) (g:=tkL) h6 q3 (fun x hx=>qbbh (h5 x hx) (qb2 hw (hm x hx))) fun x hx d s hd hs hdr hdn=>qb7g IH (h5 x hx) (qb2 hw (hm x hx)) hd hs.1 (by omega) (by have:=qcm (hm x hx);omega)
  obtain ⟨k5,k6⟩:=Prod.ext_iff.1 k1
  dsimp only at k5 k6
  unfold q9e
  refine ⟨k6,?_,k3,k4.trans (q4.trans (j4.trans q2))⟩
  dsimp only
  rw [k5]
  refine qeq h0.symm h3.symm h1.symm ?_
  rw [h2]
  show qo y :: xs.map qo = qo _ :: _
  rw [k2,show qo y = qo (ekN n 0) from j2]
 ·have hl:n.kids.length = 3:=by rw [h2];rfl
  have m0:ekN n 0∈n.kids:=qf (by omega)
  have m1:ekN n 1∈n.kids:=qf (by omega)
  have m2:ekN n 2∈n.kids:=qf (by omega)
  have d0:=qcm m0
  have d1:=qcm m1
  have d2:=qcm m2
  simp only [h0,Int.reduceEq,if_false,if_true,List.cons_append,List.append_assoc] at h
  rw [h.leave_it (qkt rfl (by decide))]
  dsimp only
  rw [if_neg Bool.false_ne_true,h.leave_it (qkt rfl (by decide))]
  dsimp only
  rw [if_neg Bool.false_ne_true,h.leave_it (qkt rfl (by decide))]
  dsimp only
  rw [if_neg Bool.false_ne_true,h.take (x:=[105,102]) (qf8 _)]
  dsimp only
  rw [if_pos rfl]
  obtain ⟨_,q1,q2⟩:=h.cons
  have hl1:rest (qi c) < rest c:=by rw [q1.len,h.len];simp
  obtain ⟨x,g1,g2,g3,g4⟩:=IH _ _ _ h4 (qb2 hw m0) q1 (q3m (by decide)) (by omega) (by rw [q2];omega)
  have hl2:rest (rec (qi c)).1 < rest c:=by rw [g3.len,h.len];simp only [List.length_append,List.length_cons];omega
  obtain ⟨_,q3,q4⟩:=g3.cons
  have hl3:rest (qi (rec (qi c)).1) < rest c:=by rw [q3.len,h.len];simp only [List.length_append,List.length_cons];omega
  obtain ⟨y,k1,k2,k3,k4⟩:=IH _ _ _ h5 (qb2 hw m1) q3 (q3m (by decide)) (by omega) (by rw [q4,g4,q2];omega)
  obtain ⟨_,q5,q6⟩:=k3.cons
  have hl5:rest (qi (rec (qi (rec (qi c)).1)).1) < rest c:=by rw [q5.len,h.len];simp only [List.length_append,List.length_cons];omega
  obtain ⟨z,j1,j2,j3,j4⟩:=IH _ _ r h6 (qb2 hw m2) q5 hr (by omega) (by rw [q6,k4,q4,g4,q2];omega)
  unfold ifsW
  have e0:ifsK (qi c) [] = (qi c,true):=if_pos rfl
  have e1:ifsK (rec (qi c)).1 [116,104,101,110] = (qi (rec (qi c)).1,true):=(if_neg (by decide)).trans (g3.want (x:=[116,104,101,110]) (qf8 _))
  have e2:ifsK (rec (qi (rec (qi c)).1)).1 [101,108,115,101] = (qi (rec (qi (rec (qi c)).1)).1,true):=(if_neg (by decide)).trans (k3.want (x:=[101,108,115,101]) (qf8 _))
  rw [qei,e0]
  dsimp only
  rw [if_pos rfl,if_pos (by rw [g1];rfl),qei,e1]
  dsimp only
  rw [if_pos rfl,if_pos (by rw [k1];rfl),qei,e2]
  dsimp only
  rw [if_pos rfl,if_pos (by rw [j1];rfl),qei,g1,k1,j1]
  refine ⟨rfl,qeq h0.symm h3.symm h1.symm ?_,j3,j4.trans (q6.trans (k4.trans (q4.trans (g4.trans q2))))⟩
  rw [h2]
  show [qo x,qo y,qo z] = [qo _,qo _,qo _]
  rw [show qo x = qo (ekN n 0) from g2,show qo y = qo (ekN n 1) from k2,show qo z = qo (ekN n 2) from j2]
end
theorem qyp:∀ (f:Nat) (n:N) (c:K) (r:List T),exW n = true->(enc n).wf->Ah c (tkE n ++ r)->NoE r->rest c < f->c.nest + 2 * dp n≤201->Got c (qe6 f c) n r
 | 0,n,c,r,_,_,_,_,hf,_=>by omega
 | f + 1, n, c, r, ht, hw, h, hr, hf, hd => by
   have hp:=qit n
   rw [qe6]
   obtain ⟨n1,n2,n3⟩:=h.enter (by omega)
   rw [if_pos n1]
   have hc1:rest (qd c).1 = rest c:=by rw [n2.len,h.len]
   obtain ⟨x,g1,g2,g3,g4⟩:=q7k (qbxs (rec:=qe6 f) (b:=f) (fun m d s h1 h2 h3 h4 h5 h6=>qyp f m d s h1 h2 h3 h4 h5 h6) ht hw n2 hr (by omega) (by omega))
   obtain ⟨l1,l2⟩:=Ah.leave (c:=(qen (qe6 f) (qd c).1).1) g3 (m:=c.nest) (g4.trans n3)
   exact ⟨x,g1,g2,l1,l2⟩
end Go.Proofs.YtlmcofjcpadmiaaGreat
