/- Texts of this proof, joined. -/
import Derived.Test.YtlmcofjcpadmiaaGreatNao
import Derived.Test.YtlmcofjcpadmiaaGreatNaq
import Derived.Lib.Join
set_option linter.unusedVariables false
set_option linter.unusedSimpArgs false

/- trees that are written: what is written (plain) -/
namespace Go.Proofs.YtlmcofjcpadmiaaGreat
open Go Go.RowKit Go.V

def arW:List UInt8:=[45,62]
def qbi (n:N):Bool:=decide (n.kids = [])
def cloW (b:Bool) (s:List UInt8):List UInt8:=if b = true then s else 40 :: (s ++ [41])
mutual
def ptT:N->List UInt8
 | .mk k _ _ t l => if k ≠ 1 ∧ t = arW then cloW (!decide ((l.getD 0 N0).text = arW)) ((ptTs l).getD 0 []) ++ ([32, 45, 62, 32] ++ (ptTs l).getD 1 [])
   else t ++ (((ptTs l).zip l).map fun p=>32 :: cloW (qbi p.2) p.1).flatten
def ptTs:List N->List (List UInt8)
 | []=>[]
 | x :: r=>ptT x :: ptTs r
end
def atT (n:N):List UInt8:=32 :: cloW (qbi n) (ptT n)
theorem qbm5 (l:List N):ptTs l = l.map ptT:=by
 induction l with
 | nil=>rfl
 | cons x r ih=>rw [ptTs,ih];rfl
theorem qj2 {α β:Type} (f:α->β) (l:List α):(l.map f).zip l = l.map fun x=>(f x,x):=by
 induction l with
 | nil=>rfl
 | cons x r ih=>rw [List.map_cons,List.zip_cons_cons,ih];rfl
theorem qsf {α:Type} (f:N->α) (d:α) (h:f N0 = d) (l:List N) (i:Nat):(l.map f).getD i d = f (l.getD i N0):=by
 rw [List.getD_eq_getElem?_getD,List.getElem?_map,List.getD_eq_getElem?_getD]
 cases l[i]? with
 | none=>exact h.symm
 | some x=>rfl
theorem qcfx:ptT N0 = []:=by
 rw [N0,ptT,if_neg (fun h=>by have:=h.2;cases this)];rfl
theorem qkf (n:N):ptT n = if n.kind≠1∧n.text = arW then cloW (!decide ((n.kids.getD 0 N0).text = arW)) (ptT (n.kids.getD 0 N0)) ++ ([32,45,62,32] ++ ptT (n.kids.getD 1 N0))
 else n.text ++ (n.kids.map atT).flatten:=by
 obtain ⟨k,p,m,t,l⟩:=n
 rw [ptT,qbm5,qj2,qsf ptT [] qcfx,qsf ptT [] qcfx,List.map_map];rfl
mutual
def ptP:N->List UInt8
 | .mk k _ m t l=>if k = 12 then [95] else if k = 13 then digI m else t ++ (((ptPs l).zip l).map fun p=>32 :: cloW (qbi p.2) p.1).flatten
def ptPs:List N->List (List UInt8)
 | []=>[]
 | x :: r=>ptP x :: ptPs r
end
def atP (n:N):List UInt8:=32 :: cloW (qbi n) (ptP n)
theorem qbou (l:List N):ptPs l = l.map ptP:=by
 induction l with
 | nil=>rfl
 | cons x r ih=>rw [ptPs,ih];rfl
theorem qo7 (n:N):ptP n = if n.kind = 12 then [95] else if n.kind = 13 then digI n.num else n.text ++ (n.kids.map atP).flatten:=by
 obtain ⟨k,p,m,t,l⟩:=n
 rw [ptP,qbou,qj2,List.map_map];rfl
def prT (n:N):List UInt8:=n.text ++ atT (n.kids.getD 0 N0)
def cmW:List UInt8:=[44,32]
def ctT (l:List N):List UInt8:=if l = [] then [] else cloW (decide (l.length = 1)) (Lib.join (l.map prT) cmW) ++ [32,61,62,32]
def quT (n:N):List UInt8:=ctT (n.kids.take (n.kids.length - 1)) ++ ptT (n.kids.getD (n.kids.length - 1) N0)
def sgT (n:N):List UInt8:=n.text ++ ([32,58,58,32] ++ quT (n.kids.getD 0 N0))
def brW (s:List UInt8):List UInt8:=if s = [] then [123,32,125] else [123,32] ++ (s ++ [32,125])
def smW:List UInt8:=[59,32]
abbrev P3:=List UInt8×List UInt8×List UInt8
def q3:P3×N:=(([],[],[]),N0)
mutual
def pba:N->P3
 | .mk k _ m t ks =>
   let l:=(pbas ks).zip ks
   let e (i:Nat):=(l.getD i q3).1.1
   (if k = 23 then digI m
    else if k = 24 then cloW (qbi (ks.getD 0 N0) || decide ((ks.getD 0 N0).kind = 24)) (e 0) ++ (32 :: cloW (qbi (ks.getD 1 N0)) (e 1))
    else if k = 25 then [92,32] ++ (t ++ ([32,45,62,32] ++ e 0))
    else if k = 26 then [108,101,116,32] ++ (brW (Lib.join ((l.take (ks.length - 1)).map (·.1.2.1)) smW) ++ ([32,105,110,32] ++ e (ks.length - 1)))
    else if k = 27 then [99,97,115,101,32] ++ (e 0 ++ ([32,111,102,32] ++ brW (Lib.join ((l.drop 1).map (·.1.2.2)) smW)))
    else if k = 28 then [105,102,32] ++ (e 0 ++ ([32,116,104,101,110,32] ++ (e 1 ++ ([32,101,108,115,101,32] ++ e 2))))
    else t,
    if k = 31 then t ++ ([32,61,32] ++ e 0) else sgT (.mk k 0 m t ks),
    ptP (ks.getD 0 N0) ++ ([32,45,62,32] ++ e 1))
def pbas:List N->List P3
 | []=>[]
 | x :: r=>pba x :: pbas r
end
def ptE (n:N):List UInt8:=(pba n).1
def ptB (n:N):List UInt8:=(pba n).2.1
def ptL (n:N):List UInt8:=(pba n).2.2
theorem qx0 (l:List N):pbas l = l.map pba:=by
 induction l with
 | nil=>rfl
 | cons x r ih=>rw [pbas,ih];rfl
theorem q2i (ks:List N) {i:Nat} (h:i < ks.length):(((ks.map pba).zip ks).getD i q3).1.1 = ptE (ks.getD i N0):=by
 rw [qj2,List.getD_eq_getElem?_getD,List.getElem?_map,List.getD_eq_getElem?_getD,List.getElem?_eq_getElem h];rfl
theorem q1h (n:N):ptE n = if n.kind = 23 then digI n.num
 else if n.kind = 24 then cloW (qbi (n.kids.getD 0 N0) || decide ((n.kids.getD 0 N0).kind = 24)) (if 0 < n.kids.length then ptE (n.kids.getD 0 N0) else []) ++ (32 :: cloW (qbi (n.kids.getD 1 N0)) (if 1 < n.kids.length then ptE (n.kids.getD 1 N0) else []))
 else if n.kind = 25 then [92,32] ++ (n.text ++ ([32,45,62,32] ++ (if 0 < n.kids.length then ptE (n.kids.getD 0 N0) else [])))
 else if n.kind = 26 then [108,101,116,32] ++ (brW (Lib.join ((n.kids.take (n.kids.length - 1)).map ptB) smW) ++ ([32,105,110,32] ++ (if 0 < n.kids.length then ptE (n.kids.getD (n.kids.length - 1) N0) else [])))
 else if n.kind = 27 then [99,97,115,101,32] ++ ((if 0 < n.kids.length then ptE (n.kids.getD 0 N0) else []) ++ ([32,111,102,32] ++ brW (Lib.join ((n.kids.drop 1).map ptL) smW)))
 else if n.kind = 28 then [105,102,32] ++ ((if 0 < n.kids.length then ptE (n.kids.getD 0 N0) else []) ++ ([32,116,104,101,110,32] ++ ((if 1 < n.kids.length then ptE (n.kids.getD 1 N0) else []) ++ ([32,101,108,115,101,32] ++ (if 2 < n.kids.length then ptE (n.kids.getD 2 N0) else [])))))
 else n.text:=by
 obtain ⟨k,p,m,t,ks⟩:=n
 have ha:∀ i,(((ks.map pba).zip ks).getD i q3).1.1 = if i < ks.length then ptE (ks.getD i N0) else []:=fun i=>by
  by_cases h:i < ks.length
  ·rw [if_pos h,q2i ks h]
  ·rw [if_neg h,qj2,List.getD_eq_getElem?_getD,List.getElem?_eq_none (by simpa using h)];rfl
 have hl:ks.length - 1 < ks.length ↔ 0 < ks.length:=by omega
 simp only [ptE,pba,qx0,ha,N.kind,N.num,N.text,N.kids,hl]
 rw [qj2,← List.map_take,← List.map_drop,List.map_map,List.map_map]
 rfl
set_option maxRecDepth 4000

theorem qmr (c:Int):qx Tryz.prog 188 [.int .u8 c] (.bool (qb8 c)):=by
 refine qn c0cv (by simp) (by simp only [go_sem]) rfl fun hw=>?_
 repeat' (first | refine vs_ ?_ | ((first | refine vr_ ?_ | (refine cs_ ?_ ?_<;>intro hc) | refine cj_ ?_ | fail)<;>(try refine ev_ ?_)) | with_reducible exact ti_)
 all_goals simp [qb8, *]
theorem q63 (c:Int):qx Tryz.prog 190 [.int .u8 c] (.bool (onW c)):=by
 refine qn c0cw (by simp) (by simp only [go_sem]) rfl fun hw=>?_
 repeat' (first | refine vs_ ?_ | ((first | refine vr_ ?_ | refine qa (qmr _) fun _=>?_ | (refine cs_ ?_ ?_<;>intro hc) | refine cj_ ?_ | fail)<;>(try refine ev_ ?_)) | with_reducible exact ti_)
 all_goals simp only [onW,qtl,qpb, *]
 all_goals first | (simp_all;done) | (simp_all;omega)
def qee (c:Int):Bool:=decide (c = 9) || decide (c = 10) || decide (c = 13) || decide (c = 32)
theorem q2n (c:Int):qx Tryz.prog 185 [.int .u8 c] (.bool (qee c)):=by
 refine qn c0cx (by simp) (by simp only [go_sem]) rfl fun hw=>?_
 repeat' (first | refine vs_ ?_ | ((first | refine vr_ ?_ | (refine cs_ ?_ ?_<;>intro hc) | refine cj_ ?_ | fail)<;>(try refine ev_ ?_)) | with_reducible exact ti_)
 all_goals simp [qee, *]
def q8z (c:Int):Bool:=!decide (c = 10)
theorem q83 (c:Int):qx Tryz.prog 187 [.int .u8 c] (.bool (q8z c)):=by
 refine qn c0cy (by simp) (by simp only [go_sem]) rfl fun hw=>?_
 repeat' (first | refine vs_ ?_ | ((first | refine vr_ ?_ | (refine cs_ ?_ ?_<;>intro hc) | refine cj_ ?_ | fail)<;>(try refine ev_ ?_)) | with_reducible exact ti_)
 all_goals simp [q8z, *]

def qbz (f:Int->Bool) (l:List UInt8):Nat:=(l.takeWhile fun c=>f c.toNat).length
theorem qmz {f:Int->Bool} {l:List UInt8} {i:Nat} (h:i < l.length):qbz f (l.drop i) = if f (l.getD i 0).toNat then qbz f (l.drop (i + 1)) + 1 else 0:=by
 rw [qnw h,qbz,List.takeWhile_cons]
 split<;>simp [qbz]
theorem qj4 {so:FuncId} {f:Int->Bool} (h:∀ c,qx Tryz.prog so [.int .u8 c] (.bool (f c))) (l:List UInt8):qx Tryz.prog 184 [.str l,.fn so [] []] (.int .i64 (qbz f l)):=by
 refine qn c0cz (by simp) (by simp only [go_sem]) rfl fun hw=>?_
 have hl:l.length≤maxLen:=hw.1
 repeat' (first | refine vs_ ?_ | ((first | refine vr_ ?_ | (refine cs_ ?_ ?_<;>intro hc) | refine cj_ ?_ | simp (disch:=omega) only [qc,qs])<;>(try refine ev_ ?_)) | with_reducible exact ti_)
 refine qcm (S:=Nat) (fun i=>i≤l.length∧qbz f l = i + qbz f (l.drop i)) (fun i=>(⟨[(0,.str l),(1,.fn so [] []),(7,.int .i64 l.length),(8,.int .i64 i)],[]⟩,[])) (fun i=>l.length - i) ?_ fun i hi=>?_
 ·refine qb1 0 [] ⟨Nat.zero_le _,by simp⟩ rfl (by simp) ?_ ?_ ?_<;>(try refine ev_ ?_)<;>(try with_reducible exact ti_)<;>(try simp (disch:=omega) only [qs,and_true,true_and])
 ·obtain ⟨hi,ha⟩:=hi
  repeat' (first | refine vs_ ?_ | ((first | refine vr_ ?_ | refine qa (h _) fun _=>?_ | (refine cs_ ?_ ?_<;>intro hc) | refine cj_ ?_ | simp (disch:=omega) only [qc,qs])<;>(try refine ev_ ?_)) | with_reducible exact ti_)
  ·rw [ha,qmz (by omega),hc];simp
  ·refine qb1 (i + 1) [] ⟨⟨by omega,?_⟩,by omega⟩ rfl (by simp) ?_ ?_ ?_<;>(try refine ev_ ?_)<;>(try with_reducible exact ti_)<;>(try simp (disch:=omega) only [qs,and_true,true_and])
   rw [ha,qmz (by omega),hc];simp;omega
  ·have:i = l.length:=by omega
   subst this
   rw [ha,List.drop_length];simp [qbz]

def pfx (p l:List UInt8):Bool:=decide (l.take p.length = p)
theorem qtg (l p:List UInt8):qx Tryz.prog 209 [.str l,.str p] (.bool (pfx p l)):=by
 refine qn c0da (by simp) (by simp only [go_sem]) rfl fun hw=>?_
 repeat' (first | refine vs_ ?_ | ((first | refine vr_ ?_ | (refine cs_ ?_ ?_<;>intro hc) | refine cj_ ?_ | fail)<;>(try refine ev_ ?_)) | with_reducible exact ti_)
 ·rfl
 ·rw [pfx,decide_eq_false]
  intro h
  have:=congrArg List.length h
  rw [List.length_take] at this
  omega
theorem qf4 (l p:List UInt8):qx Tryz.prog 186 [.str l,.str p] (.bool (pfx p l)):=by
 refine qn c0db (by simp) (by simp only [go_sem]) rfl fun hw=>?_
 repeat' (first | refine vs_ ?_ | ((first | refine vr_ ?_ | refine qa (qtg _ _) fun _=>?_ | (refine cs_ ?_ ?_<;>intro hc) | refine cj_ ?_ | fail)<;>(try refine ev_ ?_)) | with_reducible exact ti_)

theorem qi5 (f:Int->Bool) (l:List UInt8):qbz f l≤l.length:=(List.takeWhile_sublist _).length_le
def qh1 (l:List UInt8):Nat:=if pfx [45,45] (l.drop (qbz qee l)) then qbz qee l + qbz q8z (l.drop (qbz qee l)) else qbz qee l
theorem qqz (l:List UInt8):qh1 l≤l.length:=by
 unfold qh1
 have h1:=qi5 qee l
 have h2:=qi5 q8z (l.drop (qbz qee l))
 rw [List.length_drop] at h2
 split<;>omega
def qpy:Nat->List UInt8->Nat
 | 0,_=>0
 | f + 1,l=>if qh1 l = 0 then 0 else qh1 l + qpy f (l.drop (qh1 l))
def qck (l:List UInt8):Nat:=qpy l.length l
theorem qpn:∀ (f g:Nat) (l:List UInt8),l.length≤f->l.length≤g->qpy f l = qpy g l
 | 0,0,l,_,_=>rfl
 | 0, g + 1, l, h1, h2 => by
   have:=qqz l
   rw [qpy,qpy,if_pos (by omega)]
 | f + 1, 0, l, h1, h2 => by
   have:=qqz l
   rw [qpy,qpy,if_pos (by omega)]
 | f + 1, g + 1, l, h1, h2 => by
   rw [qpy,qpy]
   split
   ·rfl
   ·rename_i h
    rw [qpn f g _ (by rw [List.length_drop];omega) (by rw [List.length_drop];omega)]
theorem qod {l:List UInt8} (h:qh1 l = 0):qck l = 0:=by
 unfold qck
 cases l.length with
 | zero=>rfl
 | succ n=>rw [qpy,if_pos h]
theorem qr2 {l:List UInt8} (h:qh1 l≠0):qck l = qh1 l + qck (l.drop (qh1 l)):=by
 have hk:=qqz l
 unfold qck
 obtain ⟨n,hn⟩:∃ n,l.length = n + 1:=⟨l.length - 1,by omega⟩
 rw [hn,qpy,if_neg h,qpn n (l.drop (qh1 l)).length _ (by rw [List.length_drop];omega) (Nat.le_refl _)]
theorem qxv (l:List UInt8):qck l≤l.length:=by
 generalize hn:l.length = n
 induction n using Nat.strongRecOn generalizing l with
 | _ n ih =>
   subst hn
   by_cases h:qh1 l = 0
   ·rw [qod h];exact Nat.zero_le _
   ·have hk:=qqz l
    have:=ih (l.drop (qh1 l)).length (by rw [List.length_drop];omega) _ rfl
    rw [qr2 h];rw [List.length_drop] at this;omega
theorem qbcm {l:List UInt8} (h:pfx [45,45] (l.drop (qbz qee l)) = true):qh1 l = qbz qee l + qbz q8z (l.drop (qbz qee l)):=by rw [qh1,if_pos h]
theorem q2o {l:List UInt8} (h:pfx [45,45] (l.drop (qbz qee l)) = false):qh1 l = qbz qee l:=by rw [qh1,h];rfl
theorem qcf0 (a b:Nat):(a:Int) + (b:Int) = ((a + b:Nat):Int):=rfl

theorem qvs (l:List UInt8):qx Tryz.prog 150 [.str l] (.int .i64 (qck l)):=by
 refine qn c0dc (by simp) (by simp only [go_sem]) rfl fun hw=>?_
 have hl:l.length≤maxLen:=hw.1
 repeat' (first | refine vs_ ?_ | ((first | refine vr_ ?_ | (refine cs_ ?_ ?_<;>intro hc) | refine cj_ ?_ | simp (disch:=omega) only [qc,qs])<;>(try refine ev_ ?_)) | with_reducible exact ti_)
 refine qcm (S:=Nat) (fun n=>n≤l.length∧qck l = n + qck (l.drop n)) (fun n=>(⟨[(0,.str l),(3,.int .i64 n)],[]⟩,[])) (fun n=>l.length - n) ?_ fun n hn=>?_
 ·refine qb1 0 [] ⟨Nat.zero_le _,by simp⟩ rfl (by simp) ?_ ?_ ?_<;>(try refine ev_ ?_)<;>(try with_reducible exact ti_)<;>(try simp (disch:=omega) only [qs,and_true,true_and])
 ·obtain ⟨hn,ha⟩:=hn
  have h1:=qi5 qee (l.drop n)
  have h2:=qi5 q8z (l.drop (n + qbz qee (l.drop n)))
  rw [List.length_drop] at h1 h2
  repeat' (first | refine vs_ ?_ | ((first | refine vr_ ?_ | fail)<;>(try simp (disch:=first | omega | (simp only [List.length_set,List.length_append,List.length_cons,List.length_nil];done) | (simp only [List.length_set,List.length_append,List.length_cons,List.length_nil];omega)) only [qit,go_sem,↓reduceIte])) | ((first | simp (disch:=omega) only [qit] | simp (disch:=omega) only [qcf0] | simp (disch:=omega) only [Int.toNat_natCast] | (refine cs_ ?_ ?_<;>intro hc) | refine cj_ ?_ | simp (disch:=omega) only [qc,qs] | refine qa (qj4 q2n _) fun _=>?_ | refine qa (qf4 _ _) fun _=>?_ | refine qa (qj4 q83 _) fun _=>?_)<;>(try refine ev_ ?_)) | with_reducible exact ti_)
  ·rename_i hp _
   have hk:=qbcm (l:=l.drop n) (by rw [List.drop_drop];exact hp)
   rw [List.drop_drop] at hk
   rw [ha,qod (hk.trans (by omega))];rfl
  ·rename_i hp _
   have hk:=qbcm (l:=l.drop n) (by rw [List.drop_drop];exact hp)
   rw [List.drop_drop] at hk
   refine qb1 (n + qh1 (l.drop n)) [] ⟨⟨by omega,?_⟩,by omega⟩ rfl (by simp) ?_ ?_ ?_<;>(try refine ev_ ?_)<;>(try with_reducible exact ti_)<;>(try simp (disch:=omega) only [qs,and_true,true_and])
   ·rw [ha,qr2 (l:=l.drop n) (by omega),List.drop_drop];omega
   ·rw [hk]
  ·rename_i hp
   have hk:=q2o (l:=l.drop n) (by rw [List.drop_drop];exact hp)
   rw [ha,qod (hk.trans (by omega))];rfl
  ·rename_i hp
   have hk:=q2o (l:=l.drop n) (by rw [List.drop_drop];exact hp)
   refine qb1 (n + qh1 (l.drop n)) [] ⟨⟨by omega,?_⟩,by omega⟩ rfl (by simp) ?_ ?_ ?_<;>(try refine ev_ ?_)<;>(try with_reducible exact ti_)<;>(try simp (disch:=omega) only [qs,and_true,true_and])
   ·rw [ha,qr2 (l:=l.drop n) (by omega),List.drop_drop];omega
   ·rw [hk]

theorem q3u {c:UInt8} {r:List UInt8} (h:qee c.toNat = true):qck (c :: r) = 1 + qck r:=by
 have hw:qbz qee (c :: r) = qbz qee r + 1:=by simp [qbz,List.takeWhile_cons,h]
 have hk:qh1 (c :: r) = qh1 r + 1:=by
  unfold qh1
  rw [hw,List.drop_succ_cons]
  split<;>omega
 rw [qr2 (by omega),hk,List.drop_succ_cons]
 by_cases h0:qh1 r = 0
 ·rw [h0,qod h0];simp [qod h0]
 ·rw [qr2 h0];omega
theorem qbie {a:UInt8} {p l:List UInt8} (h:pfx (a :: p) l = true):∃ r,l = a :: r:=by
 cases l with
 | nil=>simp [pfx] at h
 | cons b r=>simp only [pfx,decide_eq_true_eq,List.length_cons,List.take_succ_cons,List.cons.injEq] at h;exact ⟨r,by rw [h.1]⟩
theorem qo4 {l:List UInt8} (h:pfx [45,45] l = false) (hb:qbz qee l = 0):qck l = 0:=by
 rw [qod]
 rw [q2o (by rw [hb];exact h),hb]
end Go.Proofs.YtlmcofjcpadmiaaGreat
