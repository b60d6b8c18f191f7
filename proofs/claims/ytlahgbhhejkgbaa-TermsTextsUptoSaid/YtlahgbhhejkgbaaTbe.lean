/- Texts of this proof, joined. -/
import Derived.Test.YtlahgbhhejkgbaaTbd
import Derived.Test.YtlahgbhhejkgbaaTbb
import Derived.Test.YtlahgbhhejkgbaaTbc
set_option linter.unusedVariables false
set_option linter.unusedSimpArgs false

/- how long the texts of types are -/
namespace Go.Proofs.Ytlahgbhhejkgbaa
open Go Go.RowKit Go.V
theorem qbcx {t:Ty} (h:(encY t).wf):-9223372036854775808≤t.var∧t.var≤9223372036854775807:=by
 have:=((qie t).1 h).2.2.1
 simpa [Lit.wf,IntKind.min,IntKind.max,IntKind.signed,IntKind.bits] using this
theorem qo0:∀ (l:List Ty),(∀ x∈l,(txtY x).length + 3≤conY x + 27 * szY x)->(argY l).length≤qcl l + 27 * szYs l
 | [],_=>by simp [argY]
 | a :: r, h => by
   have h1:=h a (by simp)
   have h2:=qo0 r fun x hx=>h x (by simp [hx])
   have h3:=(qev (decide (a.args≠[])) (txtY a)).2
   rw [argY,List.length_append,List.length_cons,qcl,szYs]
   omega
theorem qvd (t:Ty):conY t = t.con.length + qcl t.args:=by cases t;rw [conY];rfl
theorem quy (t:Ty):szY t = 1 + szYs t.args:=by cases t;rw [szY];rfl
end Go.Proofs.Ytlahgbhhejkgbaa

/- terms that are read: how great they are; legal terms, however deep -/
set_option maxRecDepth 4000
namespace Go.Proofs.Ytlahgbhhejkgbaa
open Go Go.RowKit Go.V

mutual
theorem qus:∀ t:Ty,dpY t≤szY t
 | .mk c v l=>by rw [dpY,szY];have:=qou l;omega
theorem qou:∀ l:List Ty,dpYs l≤szYs l
 | []=>by rw [dpYs,szYs];omega
 | x :: r=>by rw [dpYs,szYs];have:=qus x;have:=qou r;omega
end
theorem qqi {t:Ty} (h1:szY t≤20000):qmh t = qbd t:=by
 have h2:=qus t
 have:=(qhk t 0 1 (by omega) (by omega) (by omega) (by omega)).1
 rw [qmh,Bool.eq_iff_iff,this,qbd,Bool.and_eq_true,Bool.and_eq_true,decide_eq_true_eq,decide_eq_true_eq]
 constructor
 ·rintro ⟨a1,a2,a3⟩;exact ⟨by omega,by omega,a3⟩
 ·rintro ⟨a1,a2,a3⟩;exact ⟨by omega,by omega,a3⟩
theorem qgk {t:Ty} (h1:szY t≤20000):qg Try.prog 12 [encY t] (.bool (qbd t)):=by
 have h2:=qus t
 refine qd c0a (by simp) (by simp only [go_sem]) rfl fun hw=>?_
 have e1:=qpt t
 have e2:=qnh t
 rw [qi5 t (by omega)] at e1
 rw [qlj t (by omega)] at e2
 repeat' (first | refine vs_ ?_ | ((first | refine vr_ ?_ | refine qa e1 fun _=>?_ | refine qa e2 fun _=>?_ | refine qa (qnu t) fun _=>?_ | (refine cs_ ?_ ?_<;>intro hc) | refine cj_ ?_ | fail)<;>(try refine ev_ ?_)) | with_reducible exact ti_)
 all_goals
  rw [qbd]
 ·rw [decide_eq_true (by omega),decide_eq_true (by omega)];rfl
 ·rw [decide_eq_false (p:=dpY t≤100) (by omega),Bool.false_and,Bool.and_false]
 ·rw [decide_eq_false (p:=szY t≤4096) (by omega)];rfl
theorem qmm {t:Ty} (h1:szY t≤20000):qg Try.prog 11 [encY t] (.bool (qbd t)):=by
 have:=qhx t
 rwa [qqi h1] at this
theorem qib {t:Ty} (h1:szY t≤20000) (hl:(qbm t).length≤Big):qg Try.prog 31 [encY t] (.str (qbm t)):=by
 refine qd c0b (by simp) (by simp only [go_sem]) rfl fun hw=>?_
 have hL:=qmm h1
 cases h:qbd t with
 | false =>
   have e:qbm t = []:=by rw [qbm,if_neg (by rw [h];simp)]
   rw [e]
   rw [h] at hL
   repeat' (first | refine vs_ ?_ | ((first | refine vr_ ?_ | refine qa hL fun _=>?_ | (refine cs_ ?_ ?_<;>intro hc) | refine cj_ ?_ | fail)<;>(try refine ev_ ?_)) | with_reducible exact ti_)
 | true =>
   have e:qbm t = txtY t:=by rw [qbm,if_pos h]
   rw [e] at hl ⊢
   rw [h] at hL
   repeat' (first | refine vs_ ?_ | ((first | refine vr_ ?_ | refine qa hL fun _=>?_ | refine qa (qjs t (qbf h) hl) fun _=>?_ | (refine cs_ ?_ ?_<;>intro hc) | refine cj_ ?_ | fail)<;>(try refine ev_ ?_)) | with_reducible exact ti_)

/-! ### How great a term is that is read -/
def inI (v:Int):Prop:=-9223372036854775808≤v∧v≤9223372036854775807
mutual
def vrY:Ty->Prop
 | .mk _ v l=>inI v∧vrYs l
def vrYs:List Ty->Prop
 | []=>True
 | x :: r=>vrY x∧vrYs r
end
theorem qs6 (t:Ty):vrY t ↔ inI t.var∧vrYs t.args:=by cases t;rw [vrY];rfl
theorem qoi:∀ (l r:List Ty),vrYs l->vrYs r->vrYs (l ++ r)
 | [],r,_,h=>h
 | x :: l,r,h,h'=>by rw [vrYs] at h;rw [List.cons_append,vrYs];exact ⟨h.1,qoi l r h.2 h'⟩
theorem qgq:∀ {l:List Ty} {x:Ty},vrYs l->x∈l->vrY x
 | y :: l, x, h, hx => by
   rw [vrYs] at h
   rcases List.mem_cons.1 hx with rfl | hx
   ·exact h.1
   ·exact qgq h.2 hx
theorem qmo:∀ (l r:List Ty),qcl (l ++ r) = qcl l + qcl r
 | [],r=>by rw [List.nil_append,qcl];omega
 | x :: l,r=>by rw [List.cons_append,qcl,qcl,qmo l r];omega
theorem qoc:∀ t:Ty,qu t = true->vrY t->(txtY t).length + 3≤conY t + 27 * szY t:=Ty.ind fun t ih hs hw=>by
 obtain ⟨hv,wa⟩:=(qs6 t).1 hw
 have hn:=qua hv.1 hv.2
 rw [qvd,quy]
 by_cases h:t.con = arrW
 ·obtain ⟨a,b,h2,ha,hb⟩:=qdo hs h
  have i1:=ih a (by simp [h2]) ha (qgq wa (by simp [h2]))
  have i2:=ih b (by simp [h2]) hb (qgq wa (by simp [h2]))
  have h3:=(qev (decide (a.con = arrW)) (txtY a)).2
  rw [qc9 h h2,h2,qcl,qcl,qcl,szYs,szYs,szYs]
  simp only [List.length_append,List.length_cons,List.length_nil]
  omega
 ·have:=qo0 t.args fun x hx=>ih x hx (qea hs hx) (qgq wa hx)
  rw [qc7 h,List.length_append]
  omega
def Gr (k:Nat) (p:Ty×List UInt8):Prop:=szY p.1 + 2 * p.2.length≤2 * k + 1∧conY p.1 + p.2.length≤k∧vrY p.1
theorem qwx (s:List UInt8):szY (qbr s) = 1∧conY (qbr s)≤s.length∧vrY (qbr s):=by
 have h1:=qc0 (s.drop 1)
 have hn:numW s≤9223372036854775807:=by
  unfold numW numG
  repeat' split
  all_goals omega
 have e:∀ (c:List UInt8) (v:Int),szY (.mk c v []) = 1∧conY (.mk c v []) = c.length∧(vrY (.mk c v []) ↔ inI v):=fun c v=>⟨by rw [szY,szYs],by rw [conY,qcl];omega,by rw [vrY,vrYs];simp⟩
 unfold qbr
 split
 ·obtain ⟨a,b,c⟩:=e [] (numW s)
  exact ⟨a,by rw [b];simp,c.2 ⟨by omega,hn⟩⟩
 ·split
  ·split
   ·obtain ⟨a,b,c⟩:=e [] (-1 - (qdb (s.drop 1)).1)
    exact ⟨a,by rw [b];simp,c.2 ⟨by omega,by omega⟩⟩
   ·obtain ⟨a,b,c⟩:=e s 0
    exact ⟨a,by rw [b];omega,c.2 ⟨by omega,by omega⟩⟩
  ·obtain ⟨a,b,c⟩:=e s 0
   exact ⟨a,by rw [b];omega,c.2 ⟨by omega,by omega⟩⟩
theorem qmw (s:List UInt8):Gr s.length (Y0,s):=by
 have e1:szY Y0 = 1:=by rw [Y0,szY,szYs]
 have e2:conY Y0 = 0:=by rw [Y0,conY,qcl];rfl
 refine ⟨?_,?_,?_⟩
 ·show szY Y0 + 2 * s.length≤_
  omega
 ·show conY Y0 + s.length≤_
  omega
 ·show vrY Y0
  rw [Y0,vrY,vrYs];exact ⟨⟨by omega,by omega⟩,trivial⟩
theorem Gr.le {k m:Nat} {p:Ty×List UInt8} (h:Gr k p) (hm:k≤m):Gr m p:=⟨by have:=h.1;omega,by have:=h.2.1;omega,h.2.2⟩
theorem qrm (s:List UInt8) (n:Nat):Gr s.length (qbr (s.take n),s.drop n):=by
 obtain ⟨a,b,c⟩:=qwx (s.take n)
 refine ⟨?_,?_,c⟩<;>dsimp only
 ·rw [a,List.length_drop];omega
 ·rw [List.length_take] at b;rw [List.length_drop];omega
theorem qzw {k:Nat} {t a:Ty} {s s':List UInt8} (h:Gr k (t,s)) (ha:Gr (s.length - 1) (a,s')) (hs:1≤s.length):Gr k (.mk t.con t.var (t.args ++ [a]),s'):=by
 obtain ⟨h1,h2,h3⟩:=h
 obtain ⟨a1,a2,a3⟩:=ha
 dsimp only at h1 h2 h3 a1 a2 a3
 rw [quy] at h1
 rw [qvd] at h2
 have h3:=(qs6 t).1 h3
 refine ⟨?_,?_,?_⟩<;>dsimp only
 ·rw [szY,qxx,szYs,szYs];omega
 ·rw [conY,qmo,qcl,qcl];omega
 ·rw [vrY];exact ⟨h3.1,qoi _ _ h3.2 (by rw [vrYs,vrYs];exact ⟨a3,trivial⟩)⟩
theorem qz3 {k:Nat} {t a:Ty} {s s':List UInt8} (h:Gr k (t,s)) (ha:Gr (s.length - 4) (a,s')) (hs:4≤s.length):Gr k (.mk arrW 0 [t,a],s'):=by
 obtain ⟨h1,h2,h3⟩:=h
 obtain ⟨a1,a2,a3⟩:=ha
 dsimp only at h1 h2 h3 a1 a2 a3
 have e:arrW.length = 2:=rfl
 refine ⟨?_,?_,?_⟩<;>dsimp only
 ·rw [szY,szYs,szYs,szYs];omega
 ·rw [conY,qcl,qcl,qcl,e];omega
 ·rw [vrY,vrYs,vrYs,vrYs];exact ⟨⟨by omega,by omega⟩,h3,a3,trivial⟩
theorem F_gr:∀ n,(∀ r,Gr r.s.length ((qbp n r).1,(qbp n r).2.s))∧(∀ r,Gr r.s.length ((qch n r).1,(qch n r).2.s))∧(∀ k t (r:Rd),Gr k (t,r.s)->Gr k ((qdd n t r).1,(qdd n t r).2.s))∧(∀ k (p:Ty×Rd),Gr k (p.1,p.2.s)->Gr k ((qhv n p).1,(qhv n p).2.s)):=by
 intro n
 induction n with
 | zero =>
   refine ⟨fun r=>?_,fun r=>?_,fun k t r h=>?_,fun k p h=>?_⟩
   ·rw [qbp];exact qmw _
   ·rw [qch];exact qmw _
   ·rw [qdd];exact h
   ·rw [qhv];exact h
 | succ n ih =>
   obtain ⟨iA,iT,iM,iL⟩:=ih
   refine ⟨fun r=>?_,fun r=>?_,fun k t r h=>?_,fun k p h=>?_⟩
   ·rw [qbp]
    split
    ·have h1:=iT (cutR 1 r)
     rw [qcb] at h1
     have h2:=h1.le (m:=r.s.length) (by omega)
     unfold endA
     repeat' split
     ·exact h2
     ·obtain ⟨q1,q2,q3⟩:=h2
      refine ⟨?_,?_,q3⟩<;>dsimp only at q1 q2 ⊢<;>rw [qcb]<;>omega
     ·exact h2
    ·exact qrm _ _
   ·rw [qch]
    split
    ·exact qmw _
    ·have h1:=iA (lvR (r.lv + 1) r)
     exact iL _ _ (iM _ _ _ h1)
   ·rw [qdd]
    split
    ·rename_i hc
     have hl:=qdt hc.2.2
     simp only [List.length_cons,List.length_nil] at hl
     have h1:=iA (cutR 1 r)
     rw [qcb] at h1
     exact iM _ _ _ (qzw h h1 hl)
    ·exact h
   ·rw [qhv]
    split
    ·rename_i hc
     have hl:=qdt hc.2
     simp only [arrS,List.length_cons,List.length_nil] at hl
     have h1:=iT (cutR 4 p.2)
     rw [qcb] at h1
     exact qz3 h h1 hl
    ·exact h
theorem q7m (s:List UInt8):szY (qbt s).1≤2 * s.length + 1∧conY (qbt s).1≤s.length∧vrY (qbt s).1:=by
 obtain ⟨h1,h2,h3⟩:=(F_gr (3 * s.length + 2)).2.1 ⟨s,0,false⟩
 exact ⟨by dsimp only at h1;unfold qbt;omega,by dsimp only at h2;unfold qbt;omega,h3⟩
theorem qor {t:Ty} {k:Nat} (h1:szY t≤20000) (h2:conY t≤k) (h3:vrY t) (hk:k + 540000≤Big):(qbm t).length≤Big:=by
 unfold qbm
 split
 ·rename_i h
  have:=qoc t (qbf h) h3
  omega
 ·simp
theorem qm8 {s:List UInt8} (h1:ascS s) (h2:szY (qbt s).1≤20000) (h3:(qbm (qbt s).1).length≤Big):qg Try.prog 29 [.str s] (.tup [encY (qd4 s).1,.int .i64 (qd4 s).2]):=by
 refine qd c0c (by simp) (by simp only [go_sem]) (by simp [AV.bd,AV.bds,qbq]) fun hw=>?_
 have hr:=qhe (n:=3 * s.length + 2) (r:=⟨s,0,false⟩) h1 (Int.le_refl 0) (show (0:Int)≤200 by decide) (Nat.le_refl _)
 have ht:=qib (t:=(qbt s).1) h2 h3
 have hY:qd4 s = if (qbt s).2.bad = true then (Y0,5) else if (qbt s).2.s = [] then (if qbm (qbt s).1 = s then ((qbt s).1,0) else (Y0,5)) else (Y0,5):=rfl
 change VM _ _ _ (rdE (qbt s).2) _ (encY (qbt s).1) at hr
 generalize qbt s = p at *
 cases hb:p.2.bad with
 | true =>
   rw [hb,if_pos rfl] at hY
   rw [hY]
   repeat' (first | refine vs_ ?_ | ((first | refine vr_ ?_ | fail)<;>(try simp only [hb,go_sem,↓reduceIte])) | ((first | (refine cs_ ?_ ?_<;>intro hc) | refine cj_ ?_ | fail | refine qbu 1 hr ?_)<;>(try refine ev_ ?_)) | with_reducible exact ti_)
   all_goals rfl
 | false =>
   rw [hb,if_neg (by simp)] at hY
   rw [hY]
   by_cases he:p.2.s = []
   ·by_cases h5:qbm p.1 = s
    ·rw [if_pos he,if_pos h5]
     repeat' (first | refine vs_ ?_ | ((first | refine vr_ ?_ | fail)<;>(try simp only [hb,he,h5,go_sem,↓reduceIte])) | ((first | (refine cs_ ?_ ?_<;>intro hc) | refine cj_ ?_ | fail | refine qbu 1 hr ?_ | refine qa ht fun _=>?_)<;>(try refine ev_ ?_)) | with_reducible exact ti_)
     all_goals rfl
    ·rw [if_pos he,if_neg h5]
     repeat' (first | refine vs_ ?_ | ((first | refine vr_ ?_ | fail)<;>(try simp only [hb,he,h5,go_sem,↓reduceIte])) | ((first | (refine cs_ ?_ ?_<;>intro hc) | refine cj_ ?_ | fail | refine qbu 1 hr ?_ | refine qa ht fun _=>?_)<;>(try refine ev_ ?_)) | with_reducible exact ti_)
     all_goals rfl
   ·rw [if_neg he]
    repeat' (first | refine vs_ ?_ | ((first | refine vr_ ?_ | fail)<;>(try simp only [hb,he,go_sem,↓reduceIte])) | ((first | (refine cs_ ?_ ?_<;>intro hc) | refine cj_ ?_ | fail | refine qbu 1 hr ?_ | refine qa ht fun _=>?_)<;>(try refine ev_ ?_)) | with_reducible exact ti_)
    all_goals rfl
theorem qne {s:List UInt8} (h1:ascS s) (hs:s.length≤4000):qg Try.prog 29 [.str s] (.tup [encY (qd4 s).1,.int .i64 (qd4 s).2]):=by
 obtain ⟨g1,g2,g3⟩:=q7m s
 exact qm8 h1 (by omega) (qor (k:=4000) (by omega) (by omega) g3 (by unfold Big;omega))
end Go.Proofs.Ytlahgbhhejkgbaa
