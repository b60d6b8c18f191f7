/- Texts of this proof, joined. -/
import Derived.Test.YtkenggenkmfopaaGreatNas
import Derived.Test.YtkenggenkmfopaaGreatNav
import Derived.Test.YtkenggenkmfopaaGreatNal
set_option linter.unusedVariables false
set_option linter.unusedSimpArgs false

/- substitutions: what they do, program and reference alike -/
namespace Go.Proofs.YtkenggenkmfopaaGreat
open Go Go.RowKit Go.V

theorem qs (t:Ty):qf t = true ↔ szY t≤4096∧dpY t≤100∧qb4 t = true:=by
 rw [qf,Bool.and_eq_true,Bool.and_eq_true,decide_eq_true_eq,decide_eq_true_eq]
theorem qnw {t:Ty} (h:qb4 t = true) (hc:t.con = []):t.args = []:=by
 rw [qfj,Bool.and_eq_true] at h
 have h2:=h.2
 rw [mayY,mayW,if_pos hc,decide_eq_true_eq] at h2
 exact List.length_eq_zero_iff.1 (by omega)
mutual
theorem qdh:∀ t,qb4 t = true->bare t
 | .mk c v l, h => by
   rw [bare]
   refine ⟨fun hc=>qnw h hc,qh7 l ?_⟩
   rw [qb4,Bool.and_eq_true] at h
   exact h.1
theorem qh7:∀ l,qbz l = true->qhc l
 | [],_=>by rw [qhc];trivial
 | x :: r, h => by
   rw [qbz,Bool.and_eq_true] at h
   rw [qhc]
   exact ⟨qdh x h.1,qh7 r h.2⟩
end
def okS (s:List Pr):Prop:=risR s∧∀ p∈s,qf p.ty = true
theorem qef:okS []:=⟨trivial,fun p hp=>by simp at hp⟩
theorem qbba {s:List Pr} (h:okS s):okR s:=fun p hp=>by
 have:=(qs _).1 (h.2 p hp)
 exact ⟨this.1,this.2.1⟩
theorem qse {s:List Pr} (h:okS s) {v:Int} {u:Ty} (hu:qn v s = some u):qf u = true:=by
 obtain ⟨p,h1,_,rfl⟩:=qed hu
 exact h.2 p h1
mutual
theorem qpa {s:List Pr} (h:okS s):∀ t,qb4 t = true->qb4 (putY s t) = true
 | .mk c v l, ht => by
   rw [putY]
   split
   ·cases hl:qn v s with
    | some u=>exact ((qs u).1 (qse h hl)).2.2
    | none=>exact ht
   ·rw [qb4,Bool.and_eq_true] at ht ⊢
    exact ⟨qlw h l ht.1,by rw [qx2];exact ht.2⟩
theorem qlw {s:List Pr} (h:okS s):∀ l,qbz l = true->qbz (qd5 s l) = true
 | [],_=>by rw [qd5,qbz]
 | x :: r, hl => by
   rw [qbz,Bool.and_eq_true] at hl
   rw [qd5,qbz,Bool.and_eq_true]
   exact ⟨qpa h x hl.1,qlw h r hl.2⟩
end
def setR (l:List Pr) (v:Int) (t:Ty):List Pr×Int:=if qf t = true then (match qn v l with | some _=>(l,6) | none=>(insR v t l,0)) else (l,1)
theorem qqo {s:List Pr} (h:okS s) (v:Int) (t:Ty):okS (setR s v t).1:=by
 rw [setR]
 split
 ·rename_i ht
  cases hl:qn v s with
  | some u=>exact h
  | none =>
    refine ⟨qsm h.1 hl,fun p hp=>?_⟩
    rcases insR_mem.1 hp with rfl | hp
    ·exact ht
    ·exact h.2 p hp
 ·exact h
theorem qts (s:List Pr) (v:Int) (t:Ty):(setR s v t).1.length≤s.length + 1:=by
 rw [setR]
 split
 ·cases qn v s with
  | some u=>simp
  | none=>simp only [qm0];omega
 ·simp
def addR (s:List Pr):List Pr->List Pr
 | []=>s
 | p :: r=>addR (setR s p.v p.ty).1 r
theorem qmu:∀ (l:List Pr) {s:List Pr},okS s->okS (addR s l)
 | [],s,h=>h
 | p :: r,s,h=>qmu r (qqo h p.v p.ty)
theorem qmw:∀ (l s:List Pr),(addR s l).length≤s.length + l.length
 | [],s=>by simp [addR]
 | p :: r, s => by
   have h1:=qmw r (setR s p.v p.ty).1
   have h2:=qts s p.v p.ty
   rw [addR,List.length_cons];omega
def newR (l:List Pr):List Pr:=addR [] l
theorem qkc (l:List Pr):okS (newR l):=qmu l qef
theorem q1u (l:List Pr):(newR l).length≤l.length:=by have:=qmw l [];rw [newR];simpa using this
def appR (s:List Pr) (t:Ty):Ty×Int:=if qf t = true then (if 4096 < sizR s t then (Y0,2) else if qf (putY s t) = true then (putY s t,0) else (Y0,2)) else (Y0,1)
theorem qq9 {s:List Pr} (h:okS s) (t:Ty):appR s t = if qf t = true then (if qf (putY s t) = true then (putY s t,0) else (Y0,2)) else (Y0,1):=by
 rw [appR]
 split
 ·rename_i ht
  have hs:=qgd ht
  have hz:=qq5 s t (qdh t hs)
  split
  ·rename_i hb
   rw [if_neg]
   intro hl
   have:=((qs _).1 hl).1
   omega
  ·rfl
 ·rfl
def appP (s:List Pr) (t:Ty):Ty×Int:=if qf t = true then (if (bput s t 4096 1).1 < 0 then (Y0,2) else ((bput s t 4096 1).2,0)) else (Y0,1)
theorem qbf9 {s:List Pr} (h:okS s) (t:Ty):appP s t = appR s t:=by
 rw [appP,qq9 h]
 split
 ·rename_i ht
  obtain ⟨h1,h2,h3⟩:=(qs t).1 ht
  have hz:=qq5 s t (qdh t h3)
  have hp:=qpa h t h3
  have key:=qsu s t 4096 1 (qdh t h3) (by omega) (by omega)
  by_cases hk:(sizR s t:Int)≤4096∧1 + dpY (putY s t)≤101
  ·have hk':(sizR s t:Int)≤4096∧(1:Int) + dpY (putY s t)≤101:=by omega
   rw [key.1 hk',if_neg (by simp only;omega),if_pos ((qs _).2 ⟨by omega,by omega,hp⟩)]
  ·rw [if_pos (key.2 (by omega)),if_neg]
   intro hl
   have:=(qs _).1 hl
   omega
 ·rfl
theorem qce {s:List Pr} (h:okS s) {t:Ty} (he:(appR s t).2 = 0):qf t = true∧qf (putY s t) = true∧(appR s t).1 = putY s t:=by
 rw [qq9 h] at he ⊢
 split at he
 ·rename_i h1
  split at he
  ·rename_i h2
   rw [if_pos h1,if_pos h2]
   exact ⟨h1,h2,rfl⟩
  ·exact absurd he (by simp)
 ·exact absurd he (by simp)
def qhf (t:List Pr):List Pr->List Pr->List Pr×Int
 | acc,[]=>(acc,0)
 | acc,p :: r=>if (appR t p.ty).2 = 0 then qhf t (acc ++ [⟨p.v,(appR t p.ty).1⟩]) r else ([],(appR t p.ty).2)
def qbm (t:List Pr):List Pr->List Pr->List Pr×Int
 | acc,[]=>(acc,0)
 | acc,p :: r=>if (appR t p.ty).2 = 0 then qbm t (setR acc p.v (appR t p.ty).1).1 r else ([],(appR t p.ty).2)
theorem q7l {s:List Pr} {v:Int} {t:Ty} (ht:qf t = true) (h:∀ p∈s,p.v < v):setR s v t = (s ++ [⟨v,t⟩],0):=by
 have hn:qn v s = none:=qnk fun p hp=>by have:=h p hp;omega
 rw [setR,if_pos ht,hn]
 simp only
 rw [qsc h]
theorem qsq {t:List Pr} (ht:okS t):∀ (s acc:List Pr),risR s->(∀ p∈acc,∀ q∈s,p.v < q.v)->qbm t acc s = qhf t acc s
 | [],acc,_,_=>rfl
 | p :: r, acc, hs, hlt => by
   rw [qbm,qhf]
   split
   ·rename_i he
    obtain ⟨h1,h2,h3⟩:=qce ht he
    rw [q7l (by rw [h3];exact h2) fun q hq=>hlt q hq p (by simp)]
    refine qsq ht r _ hs.2 fun a ha q hq=>?_
    rcases List.mem_append.1 ha with ha | ha
    ·exact hlt a ha q (by simp [hq])
    ·simp at ha
     subst ha
     exact hs.1 q hq
   ·rfl
def behR (s t:List Pr):List Pr×Int:=if (qhf t [] s).2 = 0 then (addR (qhf t [] s).1 t,0) else ([],(qhf t [] s).2)
theorem qgz {t:List Pr} (ht:okS t):∀ (s acc:List Pr),(qhf t acc s).2 = 0->(qhf t acc s).1 = acc ++ s.map (fun p=>⟨p.v,putY t p.ty⟩)∧∀ p∈s,qf (putY t p.ty) = true
 | [],acc,_=>⟨by simp [qhf],fun p hp=>by simp at hp⟩
 | p :: r, acc, he => by
   rw [qhf] at he ⊢
   split at he
   ·rename_i h0
    obtain ⟨h1,h2,h3⟩:=qce ht h0
    obtain ⟨q1,q2⟩:=qgz ht r _ he
    rw [if_pos h0]
    refine ⟨by rw [q1,h3];simp,fun q hq=>?_⟩
    rcases List.mem_cons.1 hq with rfl | hq
    ·exact h2
    ·exact q2 q hq
   ·rename_i h0
    exact absurd he h0
theorem qyg {t:List Pr}:∀ {s:List Pr},risR s->risR (s.map fun p=>(⟨p.v,putY t p.ty⟩:Pr))
 | [],_=>trivial
 | p :: r, h => ⟨fun q hq => by
     obtain ⟨x,hx,rfl⟩:=List.mem_map.1 hq
     exact h.1 x hx,qyg h.2⟩
theorem qmj {t:List Pr} (v:Int):∀ s:List Pr,qn v (s.map fun p=>(⟨p.v,putY t p.ty⟩:Pr)) = (qn v s).map (putY t)
 | []=>rfl
 | p :: r => by
   rw [List.map_cons,qn,qn]
   split
   ·rfl
   ·exact qmj v r
theorem q0d {s:List Pr} {v x:Int} {t:Ty} (ht:qf t = true):qn x (setR s v t).1 = match qn x s with | some u=>some u | none=>if x = v then some t else none:=by
 rw [setR,if_pos ht]
 cases hl:qn v s with
 | some u =>
   simp only
   cases hx:qn x s with
   | some w=>rfl
   | none =>
     simp only
     rw [if_neg]
     rintro rfl
     rw [hl] at hx
     cases hx
 | none =>
   simp only
   rw [qox hl]
   split
   ·rename_i h;subst h;rw [hl]
   ·cases qn x s<;>rfl
theorem qn9 (x:Int):∀ (l s:List Pr),(∀ p∈l,qf p.ty = true)->qn x (addR s l) = match qn x s with | some u=>some u | none=>qn x l
 | [], s, _ => by
   rw [addR,qn]
   cases qn x s<;>rfl
 | p :: r, s, h => by
   rw [addR,qn9 x r _ fun q hq=>h q (by simp [hq]),q0d (h p (by simp)),qn]
   cases hx:qn x s with
   | some u=>rfl
   | none =>
     simp only
     by_cases hv:x = p.v
     ·rw [if_pos hv,if_pos hv.symm]
     ·rw [if_neg hv,if_neg (fun h=>hv h.symm)]
theorem qym {s t:List Pr} (hs:okS s) (ht:okS t):okS (behR s t).1:=by
 rw [behR]
 split
 ·rename_i he
  obtain ⟨q1,q2⟩:=qgz ht s [] he
  refine qmu t ?_
  rw [q1,List.nil_append]
  refine ⟨qyg hs.1,fun p hp=>?_⟩
  obtain ⟨x,hx,rfl⟩:=List.mem_map.1 hp
  exact q2 x hx
 ·exact qef
theorem qoy {s t:List Pr} (hs:okS s) (ht:okS t) (he:(behR s t).2 = 0) (v:Int):qn v (behR s t).1 = match qn v s with | some u=>some (putY t u) | none=>qn v t:=by
 rw [behR] at he ⊢
 split at he
 ·rename_i h0
  rw [if_pos h0]
  obtain ⟨q1,q2⟩:=qgz ht s [] h0
  simp only
  rw [qn9 v t _ ht.2,q1,List.nil_append,qmj]
  cases qn v s<;>rfl
 ·rename_i h0
  exact absurd he h0
def qbrl (vars:List Int) (s:List Pr):List Pr:=s.filter fun p=>decide (p.v∈vars)
theorem qhl (f:Pr->Bool):∀ {s:List Pr},risR s->risR (s.filter f)
 | [],_=>trivial
 | p :: r, h => by
   rw [List.filter_cons]
   split
   ·exact ⟨fun q hq=>h.1 q (List.mem_filter.1 hq).1,qhl f h.2⟩
   ·exact qhl f h.2
theorem q2o {s:List Pr} (h:okS s) (vars:List Int):okS (qbrl vars s):=⟨qhl _ h.1,fun p hp=>h.2 p (List.mem_filter.1 hp).1⟩

set_option maxRecDepth 4000

set_option maxRecDepth 4000

/-! the reference's -/

set_option maxRecDepth 4000

def typA (p:Ty×Int):AV:=.tup [encY p.1,.int .i64 p.2]
theorem qrr (k:Nat) (p:Ty×Int):(typA p).bd k = true:=by simp only [typA,AV.bd,AV.bds,qw,Bool.and_true]
end Go.Proofs.YtkenggenkmfopaaGreat
