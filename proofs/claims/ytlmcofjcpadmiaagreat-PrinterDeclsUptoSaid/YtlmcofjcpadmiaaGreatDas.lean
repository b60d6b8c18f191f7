/- Texts of this proof, joined. -/
import Derived.Test.YtlmcofjcpadmiaaGreatDap
import Derived.Test.YtlmcofjcpadmiaaGreatDar
import Derived.Lib.Join
set_option linter.unusedVariables false
set_option linter.unusedSimpArgs false

/- trees that are written: what is written (plain) -/
namespace Go.Proofs.YtlmcofjcpadmiaaGreat
open Go Go.RowKit Go.V

def arW:List UInt8:=[45,62]
def qba (n:N):Bool:=decide (n.kids = [])
def cloW (b:Bool) (s:List UInt8):List UInt8:=if b = true then s else 40 :: (s ++ [41])
mutual
def ptT:N->List UInt8
 | .mk k _ _ t l => if k ≠ 1 ∧ t = arW then cloW (!decide ((l.getD 0 N0).text = arW)) ((ptTs l).getD 0 []) ++ ([32, 45, 62, 32] ++ (ptTs l).getD 1 [])
   else t ++ (((ptTs l).zip l).map fun p=>32 :: cloW (qba p.2) p.1).flatten
def ptTs:List N->List (List UInt8)
 | []=>[]
 | x :: r=>ptT x :: ptTs r
end
def atT (n:N):List UInt8:=32 :: cloW (qba n) (ptT n)
theorem qbbk (l:List N):ptTs l = l.map ptT:=by
 induction l with
 | nil=>rfl
 | cons x r ih=>rw [ptTs,ih];rfl
theorem qia {α β:Type} (f:α->β) (l:List α):(l.map f).zip l = l.map fun x=>(f x,x):=by
 induction l with
 | nil=>rfl
 | cons x r ih=>rw [List.map_cons,List.zip_cons_cons,ih];rfl
theorem qws {α:Type} (f:N->α) (d:α) (h:f N0 = d) (l:List N) (i:Nat):(l.map f).getD i d = f (l.getD i N0):=by
 rw [List.getD_eq_getElem?_getD,List.getElem?_map,List.getD_eq_getElem?_getD]
 cases l[i]? with
 | none=>exact h.symm
 | some x=>rfl
theorem qb9a:ptT N0 = []:=by
 rw [N0,ptT,if_neg (fun h=>by have:=h.2;cases this)];rfl
theorem qj1 (n:N):ptT n = if n.kind≠1∧n.text = arW then cloW (!decide ((n.kids.getD 0 N0).text = arW)) (ptT (n.kids.getD 0 N0)) ++ ([32,45,62,32] ++ ptT (n.kids.getD 1 N0))
 else n.text ++ (n.kids.map atT).flatten:=by
 obtain ⟨k,p,m,t,l⟩:=n
 rw [ptT,qbbk,qia,qws ptT [] qb9a,qws ptT [] qb9a,List.map_map];rfl
mutual
def ptP:N->List UInt8
 | .mk k _ m t l=>if k = 12 then [95] else if k = 13 then digI m else t ++ (((ptPs l).zip l).map fun p=>32 :: cloW (qba p.2) p.1).flatten
def ptPs:List N->List (List UInt8)
 | []=>[]
 | x :: r=>ptP x :: ptPs r
end
def atP (n:N):List UInt8:=32 :: cloW (qba n) (ptP n)
theorem qbf2 (l:List N):ptPs l = l.map ptP:=by
 induction l with
 | nil=>rfl
 | cons x r ih=>rw [ptPs,ih];rfl
theorem qqt (n:N):ptP n = if n.kind = 12 then [95] else if n.kind = 13 then digI n.num else n.text ++ (n.kids.map atP).flatten:=by
 obtain ⟨k,p,m,t,l⟩:=n
 rw [ptP,qbf2,qia,List.map_map];rfl
def prT (n:N):List UInt8:=n.text ++ atT (n.kids.getD 0 N0)
def cmW:List UInt8:=[44,32]
def ctT (l:List N):List UInt8:=if l = [] then [] else cloW (decide (l.length = 1)) (Lib.join (l.map prT) cmW) ++ [32,61,62,32]
def quT (n:N):List UInt8:=ctT (n.kids.take (n.kids.length - 1)) ++ ptT (n.kids.getD (n.kids.length - 1) N0)
def sgT (n:N):List UInt8:=n.text ++ ([32,58,58,32] ++ quT (n.kids.getD 0 N0))
def brW (s:List UInt8):List UInt8:=if s = [] then [123,32,125] else [123,32] ++ (s ++ [32,125])
def smW:List UInt8:=[59,32]
abbrev P3:=List UInt8×List UInt8×List UInt8
def q3:P3×N:=(([],[],[]),N0)
mutual
def pba:N->P3
 | .mk k _ m t ks =>
   let l:=(pbas ks).zip ks
   let e (i:Nat):=(l.getD i q3).1.1
   (if k = 23 then digI m
    else if k = 24 then cloW (qba (ks.getD 0 N0) || decide ((ks.getD 0 N0).kind = 24)) (e 0) ++ (32 :: cloW (qba (ks.getD 1 N0)) (e 1))
    else if k = 25 then [92,32] ++ (t ++ ([32,45,62,32] ++ e 0))
    else if k = 26 then [108,101,116,32] ++ (brW (Lib.join ((l.take (ks.length - 1)).map (·.1.2.1)) smW) ++ ([32,105,110,32] ++ e (ks.length - 1)))
    else if k = 27 then [99,97,115,101,32] ++ (e 0 ++ ([32,111,102,32] ++ brW (Lib.join ((l.drop 1).map (·.1.2.2)) smW)))
    else if k = 28 then [105,102,32] ++ (e 0 ++ ([32,116,104,101,110,32] ++ (e 1 ++ ([32,101,108,115,101,32] ++ e 2))))
    else t,
    if k = 31 then t ++ ([32,61,32] ++ e 0) else sgT (.mk k 0 m t ks),
    ptP (ks.getD 0 N0) ++ ([32,45,62,32] ++ e 1))
def pbas:List N->List P3
 | []=>[]
 | x :: r=>pba x :: pbas r
end
def ptE (n:N):List UInt8:=(pba n).1
def ptB (n:N):List UInt8:=(pba n).2.1
def ptL (n:N):List UInt8:=(pba n).2.2
theorem qst (l:List N):pbas l = l.map pba:=by
 induction l with
 | nil=>rfl
 | cons x r ih=>rw [pbas,ih];rfl
theorem qyo (ks:List N) {i:Nat} (h:i < ks.length):(((ks.map pba).zip ks).getD i q3).1.1 = ptE (ks.getD i N0):=by
 rw [qia,List.getD_eq_getElem?_getD,List.getElem?_map,List.getD_eq_getElem?_getD,List.getElem?_eq_getElem h];rfl
theorem q4m (n:N):ptE n = if n.kind = 23 then digI n.num
 else if n.kind = 24 then cloW (qba (n.kids.getD 0 N0) || decide ((n.kids.getD 0 N0).kind = 24)) (if 0 < n.kids.length then ptE (n.kids.getD 0 N0) else []) ++ (32 :: cloW (qba (n.kids.getD 1 N0)) (if 1 < n.kids.length then ptE (n.kids.getD 1 N0) else []))
 else if n.kind = 25 then [92,32] ++ (n.text ++ ([32,45,62,32] ++ (if 0 < n.kids.length then ptE (n.kids.getD 0 N0) else [])))
 else if n.kind = 26 then [108,101,116,32] ++ (brW (Lib.join ((n.kids.take (n.kids.length - 1)).map ptB) smW) ++ ([32,105,110,32] ++ (if 0 < n.kids.length then ptE (n.kids.getD (n.kids.length - 1) N0) else [])))
 else if n.kind = 27 then [99,97,115,101,32] ++ ((if 0 < n.kids.length then ptE (n.kids.getD 0 N0) else []) ++ ([32,111,102,32] ++ brW (Lib.join ((n.kids.drop 1).map ptL) smW)))
 else if n.kind = 28 then [105,102,32] ++ ((if 0 < n.kids.length then ptE (n.kids.getD 0 N0) else []) ++ ([32,116,104,101,110,32] ++ ((if 1 < n.kids.length then ptE (n.kids.getD 1 N0) else []) ++ ([32,101,108,115,101,32] ++ (if 2 < n.kids.length then ptE (n.kids.getD 2 N0) else [])))))
 else n.text:=by
 obtain ⟨k,p,m,t,ks⟩:=n
 have ha:∀ i,(((ks.map pba).zip ks).getD i q3).1.1 = if i < ks.length then ptE (ks.getD i N0) else []:=fun i=>by
  by_cases h:i < ks.length
  ·rw [if_pos h,qyo ks h]
  ·rw [if_neg h,qia,List.getD_eq_getElem?_getD,List.getElem?_eq_none (by simpa using h)];rfl
 have hl:ks.length - 1 < ks.length ↔ 0 < ks.length:=by omega
 simp only [ptE,pba,qst,ha,N.kind,N.num,N.text,N.kids,hl]
 rw [qia,← List.map_take,← List.map_drop,List.map_map,List.map_map]
 rfl
set_option maxRecDepth 4000

theorem qki (c:Int):qq Tryz.prog 188 [.int .u8 c] (.bool (qci c)):=by
 refine qg c0cw (by simp) (by simp only [go_sem]) rfl fun hw=>?_
 repeat' (first | refine vs_ ?_ | ((first | refine vr_ ?_ | (refine cs_ ?_ ?_<;>intro hc) | refine cj_ ?_ | fail)<;>(try refine ev_ ?_)) | with_reducible exact ti_)
 all_goals simp [qci, *]
theorem qy1 (c:Int):qq Tryz.prog 190 [.int .u8 c] (.bool (onW c)):=by
 refine qg c0cx (by simp) (by simp only [go_sem]) rfl fun hw=>?_
 repeat' (first | refine vs_ ?_ | ((first | refine vr_ ?_ | refine qa (qki _) fun _=>?_ | (refine cs_ ?_ ?_<;>intro hc) | refine cj_ ?_ | fail)<;>(try refine ev_ ?_)) | with_reducible exact ti_)
 all_goals simp only [onW,qq6,qpd, *]
 all_goals first | (simp_all;done) | (simp_all;omega)
def qdq (c:Int):Bool:=decide (c = 9) || decide (c = 10) || decide (c = 13) || decide (c = 32)
theorem qyj (c:Int):qq Tryz.prog 185 [.int .u8 c] (.bool (qdq c)):=by
 refine qg c0cy (by simp) (by simp only [go_sem]) rfl fun hw=>?_
 repeat' (first | refine vs_ ?_ | ((first | refine vr_ ?_ | (refine cs_ ?_ ?_<;>intro hc) | refine cj_ ?_ | fail)<;>(try refine ev_ ?_)) | with_reducible exact ti_)
 all_goals simp [qdq, *]
def q2c (c:Int):Bool:=!decide (c = 10)
theorem q1m (c:Int):qq Tryz.prog 187 [.int .u8 c] (.bool (q2c c)):=by
 refine qg c0cz (by simp) (by simp only [go_sem]) rfl fun hw=>?_
 repeat' (first | refine vs_ ?_ | ((first | refine vr_ ?_ | (refine cs_ ?_ ?_<;>intro hc) | refine cj_ ?_ | fail)<;>(try refine ev_ ?_)) | with_reducible exact ti_)
 all_goals simp [q2c, *]

def qb4 (f:Int->Bool) (l:List UInt8):Nat:=(l.takeWhile fun c=>f c.toNat).length
theorem qkh {f:Int->Bool} {l:List UInt8} {i:Nat} (h:i < l.length):qb4 f (l.drop i) = if f (l.getD i 0).toNat then qb4 f (l.drop (i + 1)) + 1 else 0:=by
 rw [qk8 h,qb4,List.takeWhile_cons]
 split<;>simp [qb4]
theorem qhk {so:FuncId} {f:Int->Bool} (h:∀ c,qq Tryz.prog so [.int .u8 c] (.bool (f c))) (l:List UInt8):qq Tryz.prog 184 [.str l,.fn so [] []] (.int .i64 (qb4 f l)):=by
 refine qg c0da (by simp) (by simp only [go_sem]) rfl fun hw=>?_
 have hl:l.length≤maxLen:=hw.1
 repeat' (first | refine vs_ ?_ | ((first | refine vr_ ?_ | (refine cs_ ?_ ?_<;>intro hc) | refine cj_ ?_ | simp (disch:=omega) only [qb,qm])<;>(try refine ev_ ?_)) | with_reducible exact ti_)
 refine qcc (S:=Nat) (fun i=>i≤l.length∧qb4 f l = i + qb4 f (l.drop i)) (fun i=>(⟨[(0,.str l),(1,.fn so [] []),(7,.int .i64 l.length),(8,.int .i64 i)],[]⟩,[])) (fun i=>l.length - i) ?_ fun i hi=>?_
 ·refine qbl 0 [] ⟨Nat.zero_le _,by simp⟩ rfl (by simp) ?_ ?_ ?_<;>(try refine ev_ ?_)<;>(try with_reducible exact ti_)<;>(try simp (disch:=omega) only [qm,and_true,true_and])
 ·obtain ⟨hi,ha⟩:=hi
  repeat' (first | refine vs_ ?_ | ((first | refine vr_ ?_ | refine qa (h _) fun _=>?_ | (refine cs_ ?_ ?_<;>intro hc) | refine cj_ ?_ | simp (disch:=omega) only [qb,qm])<;>(try refine ev_ ?_)) | with_reducible exact ti_)
  ·rw [ha,qkh (by omega),hc];simp
  ·refine qbl (i + 1) [] ⟨⟨by omega,?_⟩,by omega⟩ rfl (by simp) ?_ ?_ ?_<;>(try refine ev_ ?_)<;>(try with_reducible exact ti_)<;>(try simp (disch:=omega) only [qm,and_true,true_and])
   rw [ha,qkh (by omega),hc];simp;omega
  ·have:i = l.length:=by omega
   subst this
   rw [ha,List.drop_length];simp [qb4]

def pfx (p l:List UInt8):Bool:=decide (l.take p.length = p)
theorem qpt (l p:List UInt8):qq Tryz.prog 209 [.str l,.str p] (.bool (pfx p l)):=by
 refine qg c0db (by simp) (by simp only [go_sem]) rfl fun hw=>?_
 repeat' (first | refine vs_ ?_ | ((first | refine vr_ ?_ | (refine cs_ ?_ ?_<;>intro hc) | refine cj_ ?_ | fail)<;>(try refine ev_ ?_)) | with_reducible exact ti_)
 ·rfl
 ·rw [pfx,decide_eq_false]
  intro h
  have:=congrArg List.length h
  rw [List.length_take] at this
  omega
theorem qew (l p:List UInt8):qq Tryz.prog 186 [.str l,.str p] (.bool (pfx p l)):=by
 refine qg c0dc (by simp) (by simp only [go_sem]) rfl fun hw=>?_
 repeat' (first | refine vs_ ?_ | ((first | refine vr_ ?_ | refine qa (qpt _ _) fun _=>?_ | (refine cs_ ?_ ?_<;>intro hc) | refine cj_ ?_ | fail)<;>(try refine ev_ ?_)) | with_reducible exact ti_)

theorem qhe (f:Int->Bool) (l:List UInt8):qb4 f l≤l.length:=(List.takeWhile_sublist _).length_le
def qgj (l:List UInt8):Nat:=if pfx [45,45] (l.drop (qb4 qdq l)) then qb4 qdq l + qb4 q2c (l.drop (qb4 qdq l)) else qb4 qdq l
theorem qnr (l:List UInt8):qgj l≤l.length:=by
 unfold qgj
 have h1:=qhe qdq l
 have h2:=qhe q2c (l.drop (qb4 qdq l))
 rw [List.length_drop] at h2
 split<;>omega
def qm2:Nat->List UInt8->Nat
 | 0,_=>0
 | f + 1,l=>if qgj l = 0 then 0 else qgj l + qm2 f (l.drop (qgj l))
def qcj (l:List UInt8):Nat:=qm2 l.length l
theorem qmo:∀ (f g:Nat) (l:List UInt8),l.length≤f->l.length≤g->qm2 f l = qm2 g l
 | 0,0,l,_,_=>rfl
 | 0, g + 1, l, h1, h2 => by
   have:=qnr l
   rw [qm2,qm2,if_pos (by omega)]
 | f + 1, 0, l, h1, h2 => by
   have:=qnr l
   rw [qm2,qm2,if_pos (by omega)]
 | f + 1, g + 1, l, h1, h2 => by
   rw [qm2,qm2]
   split
   ·rfl
   ·rename_i h
    rw [qmo f g _ (by rw [List.length_drop];omega) (by rw [List.length_drop];omega)]
theorem qmb {l:List UInt8} (h:qgj l = 0):qcj l = 0:=by
 unfold qcj
 cases l.length with
 | zero=>rfl
 | succ n=>rw [qm2,if_pos h]
theorem qqe {l:List UInt8} (h:qgj l≠0):qcj l = qgj l + qcj (l.drop (qgj l)):=by
 have hk:=qnr l
 unfold qcj
 obtain ⟨n,hn⟩:∃ n,l.length = n + 1:=⟨l.length - 1,by omega⟩
 rw [hn,qm2,if_neg h,qmo n (l.drop (qgj l)).length _ (by rw [List.length_drop];omega) (Nat.le_refl _)]
theorem qta (l:List UInt8):qcj l≤l.length:=by
 generalize hn:l.length = n
 induction n using Nat.strongRecOn generalizing l with
 | _ n ih =>
   subst hn
   by_cases h:qgj l = 0
   ·rw [qmb h];exact Nat.zero_le _
   ·have hk:=qnr l
    have:=ih (l.drop (qgj l)).length (by rw [List.length_drop];omega) _ rfl
    rw [qqe h];rw [List.length_drop] at this;omega
theorem q37 {l:List UInt8} (h:pfx [45,45] (l.drop (qb4 qdq l)) = true):qgj l = qb4 qdq l + qb4 q2c (l.drop (qb4 qdq l)):=by rw [qgj,if_pos h]
theorem qxw {l:List UInt8} (h:pfx [45,45] (l.drop (qb4 qdq l)) = false):qgj l = qb4 qdq l:=by rw [qgj,h];rfl
theorem qcan (a b:Nat):(a:Int) + (b:Int) = ((a + b:Nat):Int):=rfl

theorem qrf (l:List UInt8):qq Tryz.prog 150 [.str l] (.int .i64 (qcj l)):=by
 refine qg c0dd (by simp) (by simp only [go_sem]) rfl fun hw=>?_
 have hl:l.length≤maxLen:=hw.1
 repeat' (first | refine vs_ ?_ | ((first | refine vr_ ?_ | (refine cs_ ?_ ?_<;>intro hc) | refine cj_ ?_ | simp (disch:=omega) only [qb,qm])<;>(try refine ev_ ?_)) | with_reducible exact ti_)
 refine qcc (S:=Nat) (fun n=>n≤l.length∧qcj l = n + qcj (l.drop n)) (fun n=>(⟨[(0,.str l),(3,.int .i64 n)],[]⟩,[])) (fun n=>l.length - n) ?_ fun n hn=>?_
 ·refine qbl 0 [] ⟨Nat.zero_le _,by simp⟩ rfl (by simp) ?_ ?_ ?_<;>(try refine ev_ ?_)<;>(try with_reducible exact ti_)<;>(try simp (disch:=omega) only [qm,and_true,true_and])
 ·obtain ⟨hn,ha⟩:=hn
  have h1:=qhe qdq (l.drop n)
  have h2:=qhe q2c (l.drop (n + qb4 qdq (l.drop n)))
  rw [List.length_drop] at h1 h2
  repeat' (first | refine vs_ ?_ | ((first | refine vr_ ?_ | fail)<;>(try simp (disch:=first | omega | (simp only [List.length_set,List.length_append,List.length_cons,List.length_nil];done) | (simp only [List.length_set,List.length_append,List.length_cons,List.length_nil];omega)) only [qgz,go_sem,↓reduceIte])) | ((first | simp (disch:=omega) only [qgz] | simp (disch:=omega) only [qcan] | simp (disch:=omega) only [Int.toNat_natCast] | (refine cs_ ?_ ?_<;>intro hc) | refine cj_ ?_ | simp (disch:=omega) only [qb,qm] | refine qa (qhk qyj _) fun _=>?_ | refine qa (qew _ _) fun _=>?_ | refine qa (qhk q1m _) fun _=>?_)<;>(try refine ev_ ?_)) | with_reducible exact ti_)
  ·rename_i hp _
   have hk:=q37 (l:=l.drop n) (by rw [List.drop_drop];exact hp)
   rw [List.drop_drop] at hk
   rw [ha,qmb (hk.trans (by omega))];rfl
  ·rename_i hp _
   have hk:=q37 (l:=l.drop n) (by rw [List.drop_drop];exact hp)
   rw [List.drop_drop] at hk
   refine qbl (n + qgj (l.drop n)) [] ⟨⟨by omega,?_⟩,by omega⟩ rfl (by simp) ?_ ?_ ?_<;>(try refine ev_ ?_)<;>(try with_reducible exact ti_)<;>(try simp (disch:=omega) only [qm,and_true,true_and])
   ·rw [ha,qqe (l:=l.drop n) (by omega),List.drop_drop];omega
   ·rw [hk]
  ·rename_i hp
   have hk:=qxw (l:=l.drop n) (by rw [List.drop_drop];exact hp)
   rw [ha,qmb (hk.trans (by omega))];rfl
  ·rename_i hp
   have hk:=qxw (l:=l.drop n) (by rw [List.drop_drop];exact hp)
   refine qbl (n + qgj (l.drop n)) [] ⟨⟨by omega,?_⟩,by omega⟩ rfl (by simp) ?_ ?_ ?_<;>(try refine ev_ ?_)<;>(try with_reducible exact ti_)<;>(try simp (disch:=omega) only [qm,and_true,true_and])
   ·rw [ha,qqe (l:=l.drop n) (by omega),List.drop_drop];omega
   ·rw [hk]

theorem qyi {c:UInt8} {r:List UInt8} (h:qdq c.toNat = true):qcj (c :: r) = 1 + qcj r:=by
 have hw:qb4 qdq (c :: r) = qb4 qdq r + 1:=by simp [qb4,List.takeWhile_cons,h]
 have hk:qgj (c :: r) = qgj r + 1:=by
  unfold qgj
  rw [hw,List.drop_succ_cons]
  split<;>omega
 rw [qqe (by omega),hk,List.drop_succ_cons]
 by_cases h0:qgj r = 0
 ·rw [h0,qmb h0];simp [qmb h0]
 ·rw [qqe h0];omega
theorem qbdd {a:UInt8} {p l:List UInt8} (h:pfx (a :: p) l = true):∃ r,l = a :: r:=by
 cases l with
 | nil=>simp [pfx] at h
 | cons b r=>simp only [pfx,decide_eq_true_eq,List.length_cons,List.take_succ_cons,List.cons.injEq] at h;exact ⟨r,by rw [h.1]⟩
theorem qlx {l:List UInt8} (h:pfx [45,45] l = false) (hb:qb4 qdq l = 0):qcj l = 0:=by
 rw [qmb]
 rw [qxw (by rw [hb];exact h),hb]
end Go.Proofs.YtlmcofjcpadmiaaGreat
