/- Texts of this proof, joined. -/
import Derived.Test.YtlahgbhhejkgbaaKbc
import Derived.Test.YtlahgbhhejkgbaaKba
import Derived.Test.YtlahgbhhejkgbaaKbb
set_option linter.unusedVariables false
set_option linter.unusedSimpArgs false

/- how long the texts of types are -/
namespace Go.Proofs.Ytlahgbhhejkgbaa
open Go Go.RowKit Go.V
theorem qbc8 {t:Ty} (h:(encY t).wf):-9223372036854775808≤t.var∧t.var≤9223372036854775807:=by
 have:=((qj2 t).1 h).2.2.1
 simpa [Lit.wf,IntKind.min,IntKind.max,IntKind.signed,IntKind.bits] using this
theorem qor:∀ (l:List Ty),(∀ x∈l,(txtY x).length + 3≤conY x + 27 * szY x)->(argY l).length≤qcs l + 27 * szYs l
 | [],_=>by simp [argY]
 | a :: r, h => by
   have h1:=h a (by simp)
   have h2:=qor r fun x hx=>h x (by simp [hx])
   have h3:=(qgr (decide (a.args≠[])) (txtY a)).2
   rw [argY,List.length_append,List.length_cons,qcs,szYs]
   omega
theorem qtz (t:Ty):conY t = t.con.length + qcs t.args:=by cases t;rw [conY];rfl
theorem qr8 (t:Ty):szY t = 1 + szYs t.args:=by cases t;rw [szY];rfl
end Go.Proofs.Ytlahgbhhejkgbaa

/- terms that are read: how great they are; legal terms, however deep -/
set_option maxRecDepth 4000
namespace Go.Proofs.Ytlahgbhhejkgbaa
open Go Go.RowKit Go.V

mutual
theorem qyr:∀ t:Ty,dpY t≤szY t
 | .mk c v l=>by rw [dpY,szY];have:=qn1 l;omega
theorem qn1:∀ l:List Ty,dpYs l≤szYs l
 | []=>by rw [dpYs,szYs];omega
 | x :: r=>by rw [dpYs,szYs];have:=qyr x;have:=qn1 r;omega
end
theorem qpv {t:Ty} (h1:szY t≤20000):ql4 t = qbz t:=by
 have h2:=qyr t
 have:=(qh2 t 0 1 (by omega) (by omega) (by omega) (by omega)).1
 rw [ql4,Bool.eq_iff_iff,this,qbz,Bool.and_eq_true,Bool.and_eq_true,decide_eq_true_eq,decide_eq_true_eq]
 constructor
 ·rintro ⟨a1,a2,a3⟩;exact ⟨by omega,by omega,a3⟩
 ·rintro ⟨a1,a2,a3⟩;exact ⟨by omega,by omega,a3⟩
theorem qet {t:Ty} (h1:szY t≤20000):ql Try.prog 11 [encY t] (.bool (qbz t)):=by
 have:=qhd t
 rwa [qpv h1] at this
theorem qdu {t:Ty} (h1:szY t≤20000) (hl:(qbn t).length≤Big):ql Try.prog 31 [encY t] (.str (qbn t)):=by
 refine qg c0a (by simp) (by simp only [go_sem]) rfl fun hw=>?_
 have hL:=qet h1
 cases h:qbz t with
 | false =>
   have e:qbn t = []:=by rw [qbn,if_neg (by rw [h];simp)]
   rw [e]
   rw [h] at hL
   repeat' (first | refine vs_ ?_ | ((first | refine vr_ ?_ | refine qa hL fun _=>?_ | (refine cs_ ?_ ?_<;>intro hc) | refine cj_ ?_ | fail)<;>(try refine ev_ ?_)) | with_reducible exact ti_)
 | true =>
   have e:qbn t = txtY t:=by rw [qbn,if_pos h]
   rw [e] at hl ⊢
   rw [h] at hL
   repeat' (first | refine vs_ ?_ | ((first | refine vr_ ?_ | refine qa hL fun _=>?_ | refine qa (qjw t (qbi h) hl) fun _=>?_ | (refine cs_ ?_ ?_<;>intro hc) | refine cj_ ?_ | fail)<;>(try refine ev_ ?_)) | with_reducible exact ti_)

/-! ### How great a term is that is read -/
def inI (v:Int):Prop:=-9223372036854775808≤v∧v≤9223372036854775807
mutual
def vrY:Ty->Prop
 | .mk _ v l=>inI v∧vrYs l
def vrYs:List Ty->Prop
 | []=>True
 | x :: r=>vrY x∧vrYs r
end
theorem qoe (t:Ty):vrY t ↔ inI t.var∧vrYs t.args:=by cases t;rw [vrY];rfl
theorem qpa:∀ (l r:List Ty),vrYs l->vrYs r->vrYs (l ++ r)
 | [],r,_,h=>h
 | x :: l,r,h,h'=>by rw [vrYs] at h;rw [List.cons_append,vrYs];exact ⟨h.1,qpa l r h.2 h'⟩
theorem qfc:∀ {l:List Ty} {x:Ty},vrYs l->x∈l->vrY x
 | y :: l, x, h, hx => by
   rw [vrYs] at h
   rcases List.mem_cons.1 hx with rfl | hx
   ·exact h.1
   ·exact qfc h.2 hx
theorem qk7:∀ (l r:List Ty),qcs (l ++ r) = qcs l + qcs r
 | [],r=>by rw [List.nil_append,qcs];omega
 | x :: l,r=>by rw [List.cons_append,qcs,qcs,qk7 l r];omega
theorem qnx:∀ t:Ty,qn t = true->vrY t->(txtY t).length + 3≤conY t + 27 * szY t:=Ty.ind fun t ih hs hw=>by
 obtain ⟨hv,wa⟩:=(qoe t).1 hw
 have hn:=qtw hv.1 hv.2
 rw [qtz,qr8]
 by_cases h:t.con = arrW
 ·obtain ⟨a,b,h2,ha,hb⟩:=qcj hs h
  have i1:=ih a (by simp [h2]) ha (qfc wa (by simp [h2]))
  have i2:=ih b (by simp [h2]) hb (qfc wa (by simp [h2]))
  have h3:=(qgr (decide (a.con = arrW)) (txtY a)).2
  rw [qdw h h2,h2,qcs,qcs,qcs,szYs,szYs,szYs]
  simp only [List.length_append,List.length_cons,List.length_nil]
  omega
 ·have:=qor t.args fun x hx=>ih x hx (qce hs hx) (qfc wa hx)
  rw [qc6 h,List.length_append]
  omega
def Gr (k:Nat) (p:Ty×List UInt8):Prop:=szY p.1 + 2 * p.2.length≤2 * k + 1∧conY p.1 + p.2.length≤k∧vrY p.1
theorem qwc (s:List UInt8):szY (qbx s) = 1∧conY (qbx s)≤s.length∧vrY (qbx s):=by
 have h1:=qe9 (s.drop 1)
 have hn:numW s≤9223372036854775807:=by
  unfold numW numG
  repeat' split
  all_goals omega
 have e:∀ (c:List UInt8) (v:Int),szY (.mk c v []) = 1∧conY (.mk c v []) = c.length∧(vrY (.mk c v []) ↔ inI v):=fun c v=>⟨by rw [szY,szYs],by rw [conY,qcs];omega,by rw [vrY,vrYs];simp⟩
 unfold qbx
 split
 ·obtain ⟨a,b,c⟩:=e [] (numW s)
  exact ⟨a,by rw [b];simp,c.2 ⟨by omega,hn⟩⟩
 ·split
  ·split
   ·obtain ⟨a,b,c⟩:=e [] (-1 - (qdh (s.drop 1)).1)
    exact ⟨a,by rw [b];simp,c.2 ⟨by omega,by omega⟩⟩
   ·obtain ⟨a,b,c⟩:=e s 0
    exact ⟨a,by rw [b];omega,c.2 ⟨by omega,by omega⟩⟩
  ·obtain ⟨a,b,c⟩:=e s 0
   exact ⟨a,by rw [b];omega,c.2 ⟨by omega,by omega⟩⟩
theorem q59 (s:List UInt8):Gr s.length (Y0,s):=by
 have e1:szY Y0 = 1:=by rw [Y0,szY,szYs]
 have e2:conY Y0 = 0:=by rw [Y0,conY,qcs];rfl
 refine ⟨?_,?_,?_⟩
 ·show szY Y0 + 2 * s.length≤_
  omega
 ·show conY Y0 + s.length≤_
  omega
 ·show vrY Y0
  rw [Y0,vrY,vrYs];exact ⟨⟨by omega,by omega⟩,trivial⟩
theorem Gr.le {k m:Nat} {p:Ty×List UInt8} (h:Gr k p) (hm:k≤m):Gr m p:=⟨by have:=h.1;omega,by have:=h.2.1;omega,h.2.2⟩
theorem q2t (s:List UInt8) (n:Nat):Gr s.length (qbx (s.take n),s.drop n):=by
 obtain ⟨a,b,c⟩:=qwc (s.take n)
 refine ⟨?_,?_,c⟩<;>dsimp only
 ·rw [a,List.length_drop];omega
 ·rw [List.length_take] at b;rw [List.length_drop];omega
theorem qbcd {k:Nat} {t a:Ty} {s s':List UInt8} (h:Gr k (t,s)) (ha:Gr (s.length - 1) (a,s')) (hs:1≤s.length):Gr k (.mk t.con t.var (t.args ++ [a]),s'):=by
 obtain ⟨h1,h2,h3⟩:=h
 obtain ⟨a1,a2,a3⟩:=ha
 dsimp only at h1 h2 h3 a1 a2 a3
 rw [qr8] at h1
 rw [qtz] at h2
 have h3:=(qoe t).1 h3
 refine ⟨?_,?_,?_⟩<;>dsimp only
 ·rw [szY,qu3,szYs,szYs];omega
 ·rw [conY,qk7,qcs,qcs];omega
 ·rw [vrY];exact ⟨h3.1,qpa _ _ h3.2 (by rw [vrYs,vrYs];exact ⟨a3,trivial⟩)⟩
theorem qbb1 {k:Nat} {t a:Ty} {s s':List UInt8} (h:Gr k (t,s)) (ha:Gr (s.length - 4) (a,s')) (hs:4≤s.length):Gr k (.mk arrW 0 [t,a],s'):=by
 obtain ⟨h1,h2,h3⟩:=h
 obtain ⟨a1,a2,a3⟩:=ha
 dsimp only at h1 h2 h3 a1 a2 a3
 have e:arrW.length = 2:=rfl
 refine ⟨?_,?_,?_⟩<;>dsimp only
 ·rw [szY,szYs,szYs,szYs];omega
 ·rw [conY,qcs,qcs,qcs,e];omega
 ·rw [vrY,vrYs,vrYs,vrYs];exact ⟨⟨by omega,by omega⟩,h3,a3,trivial⟩
theorem F_gr:∀ n,(∀ r,Gr r.s.length ((qbp n r).1,(qbp n r).2.s))∧(∀ r,Gr r.s.length ((qcg n r).1,(qcg n r).2.s))∧(∀ k t (r:Rd),Gr k (t,r.s)->Gr k ((qdb n t r).1,(qdb n t r).2.s))∧(∀ k (p:Ty×Rd),Gr k (p.1,p.2.s)->Gr k ((qhc n p).1,(qhc n p).2.s)):=by
 intro n
 induction n with
 | zero =>
   refine ⟨fun r=>?_,fun r=>?_,fun k t r h=>?_,fun k p h=>?_⟩
   ·rw [qbp];exact q59 _
   ·rw [qcg];exact q59 _
   ·rw [qdb];exact h
   ·rw [qhc];exact h
 | succ n ih =>
   obtain ⟨iA,iT,iM,iL⟩:=ih
   refine ⟨fun r=>?_,fun r=>?_,fun k t r h=>?_,fun k p h=>?_⟩
   ·rw [qbp]
    split
    ·have h1:=iT (cutR 1 r)
     rw [qcb] at h1
     have h2:=h1.le (m:=r.s.length) (by omega)
     unfold endA
     repeat' split
     ·exact h2
     ·obtain ⟨q1,q2,q3⟩:=h2
      refine ⟨?_,?_,q3⟩<;>dsimp only at q1 q2 ⊢<;>rw [qcb]<;>omega
     ·exact h2
    ·exact q2t _ _
   ·rw [qcg]
    split
    ·exact q59 _
    ·have h1:=iA (lvR (r.lv + 1) r)
     exact iL _ _ (iM _ _ _ h1)
   ·rw [qdb]
    split
    ·rename_i hc
     have hl:=qdy hc.2.2
     simp only [List.length_cons,List.length_nil] at hl
     have h1:=iA (cutR 1 r)
     rw [qcb] at h1
     exact iM _ _ _ (qbcd h h1 hl)
    ·exact h
   ·rw [qhc]
    split
    ·rename_i hc
     have hl:=qdy hc.2
     simp only [arrS,List.length_cons,List.length_nil] at hl
     have h1:=iT (cutR 4 p.2)
     rw [qcb] at h1
     exact qbb1 h h1 hl
    ·exact h
theorem qrw (s:List UInt8):szY (qbd s).1≤2 * s.length + 1∧conY (qbd s).1≤s.length∧vrY (qbd s).1:=by
 obtain ⟨h1,h2,h3⟩:=(F_gr (3 * s.length + 2)).2.1 ⟨s,0,false⟩
 exact ⟨by dsimp only at h1;unfold qbd;omega,by dsimp only at h2;unfold qbd;omega,h3⟩
theorem qwi {t:Ty} {k:Nat} (h1:szY t≤20000) (h2:conY t≤k) (h3:vrY t) (hk:k + 540000≤Big):(qbn t).length≤Big:=by
 unfold qbn
 split
 ·rename_i h
  have:=qnx t (qbi h) h3
  omega
 ·simp
theorem qic {s:List UInt8} (h1:ascS s) (h2:szY (qbd s).1≤20000) (h3:(qbn (qbd s).1).length≤Big):ql Try.prog 29 [.str s] (.tup [encY (qe0 s).1,.int .i64 (qe0 s).2]):=by
 refine qg c0b (by simp) (by simp only [go_sem]) (by simp [AV.bd,AV.bds,qck]) fun hw=>?_
 have hr:=qhu (n:=3 * s.length + 2) (r:=⟨s,0,false⟩) h1 (Int.le_refl 0) (show (0:Int)≤200 by decide) (Nat.le_refl _)
 have ht:=qdu (t:=(qbd s).1) h2 h3
 have hY:qe0 s = if (qbd s).2.bad = true then (Y0,5) else if (qbd s).2.s = [] then (if qbn (qbd s).1 = s then ((qbd s).1,0) else (Y0,5)) else (Y0,5):=rfl
 change VM _ _ _ (rdE (qbd s).2) _ (encY (qbd s).1) at hr
 generalize qbd s = p at *
 cases hb:p.2.bad with
 | true =>
   rw [hb,if_pos rfl] at hY
   rw [hY]
   repeat' (first | refine vs_ ?_ | ((first | refine vr_ ?_ | fail)<;>(try simp only [hb,go_sem,↓reduceIte])) | ((first | (refine cs_ ?_ ?_<;>intro hc) | refine cj_ ?_ | fail | refine qbr 1 hr ?_)<;>(try refine ev_ ?_)) | with_reducible exact ti_)
   all_goals rfl
 | false =>
   rw [hb,if_neg (by simp)] at hY
   rw [hY]
   by_cases he:p.2.s = []
   ·by_cases h5:qbn p.1 = s
    ·rw [if_pos he,if_pos h5]
     repeat' (first | refine vs_ ?_ | ((first | refine vr_ ?_ | fail)<;>(try simp only [hb,he,h5,go_sem,↓reduceIte])) | ((first | (refine cs_ ?_ ?_<;>intro hc) | refine cj_ ?_ | fail | refine qbr 1 hr ?_ | refine qa ht fun _=>?_)<;>(try refine ev_ ?_)) | with_reducible exact ti_)
     all_goals rfl
    ·rw [if_pos he,if_neg h5]
     repeat' (first | refine vs_ ?_ | ((first | refine vr_ ?_ | fail)<;>(try simp only [hb,he,h5,go_sem,↓reduceIte])) | ((first | (refine cs_ ?_ ?_<;>intro hc) | refine cj_ ?_ | fail | refine qbr 1 hr ?_ | refine qa ht fun _=>?_)<;>(try refine ev_ ?_)) | with_reducible exact ti_)
     all_goals rfl
   ·rw [if_neg he]
    repeat' (first | refine vs_ ?_ | ((first | refine vr_ ?_ | fail)<;>(try simp only [hb,he,go_sem,↓reduceIte])) | ((first | (refine cs_ ?_ ?_<;>intro hc) | refine cj_ ?_ | fail | refine qbr 1 hr ?_ | refine qa ht fun _=>?_)<;>(try refine ev_ ?_)) | with_reducible exact ti_)
    all_goals rfl
theorem qmy {s:List UInt8} (h1:ascS s) (hs:s.length≤4000):ql Try.prog 29 [.str s] (.tup [encY (qe0 s).1,.int .i64 (qe0 s).2]):=by
 obtain ⟨g1,g2,g3⟩:=qrw s
 exact qic h1 (by omega) (qwi (k:=4000) (by omega) (by omega) g3 (by unfold Big;omega))
end Go.Proofs.Ytlahgbhhejkgbaa
