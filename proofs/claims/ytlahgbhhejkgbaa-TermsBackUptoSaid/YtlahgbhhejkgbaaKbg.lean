/- A text of this proof. -/
import Derived.Test.YtlahgbhhejkgbaaKbd
import Derived.Test.YtlahgbhhejkgbaaKbf
set_option linter.unusedVariables false
set_option linter.unusedSimpArgs false

/- terms: a term's text is read as that term, by both readers -/
namespace Go.Proofs.Ytlahgbhhejkgbaa
open Go Go.RowKit Go.V

/-! the reference's reader -/
abbrev P3:=Ty×List UInt8×Bool
def endG (p:P3):P3:=if p.2.2 = true then (if pfx [41] p.2.1 = true then (p.1,p.2.1.drop 1,true) else (p.1,p.2.1,false)) else (p.1,p.2.1,false)
def addG (t:Ty) (a:P3):P3:=(.mk t.con t.var (t.args ++ [a.1]),a.2.1,a.2.2)
def goOn (s:List UInt8):Bool:=decide (1 < s.length) && (decide (s.getD 0 0 = 32) && !decide (s.getD 1 0 = 45))
mutual
def ql2:Nat->List UInt8->Int->P3
 | 0,s,_=>(Y0,s,false)
 | n + 1,s,d=>if d < 1∨s = [] then (Y0,s,false) else if pfx [40] s = true then endG (typG n (s.drop 1) (d - 1)) else (qbx (s.take (qdg s)),s.drop (qdg s),decide (0 < qdg s))
def qmk:Nat->P3->Int->P3
 | 0,p,_=>p
 | n + 1,p,d=>if p.2.2 = true∧goOn p.2.1 = true then qmk n (addG p.1 (ql2 n (p.2.1.drop 1) d)) d else p
def typG:Nat->List UInt8->Int->P3
 | 0,s,_=>(Y0,s,false)
 | n + 1,s,d=>if d < 1 then (Y0,s,false) else q1n n (qmk n (ql2 n s d) d) d
def q1n:Nat->P3->Int->P3
 | 0,p,_=>p
 | n + 1,p,d=>if p.2.2 = true∧4 < p.2.1.length∧pfx arrS p.2.1 = true then (.mk arrW 0 [p.1,(typG n (p.2.1.drop 4) (d - 1)).1],(typG n (p.2.1.drop 4) (d - 1)).2.1,(typG n (p.2.1.drop 4) (d - 1)).2.2) else p
end

/-! words -/
mutual
def reY:Ty->Ty
 | .mk c v l=>if c = arrW then .mk arrW 0 (reYs l) else if l = [] then qbx (qbo (.mk c v [])) else .mk c 0 (reYs l)
def reYs:List Ty->List Ty
 | []=>[]
 | x :: r=>reY x :: reYs r
end
theorem qs6 {t:Ty} (h:t.con = arrW):reY t = .mk arrW 0 (reYs t.args):=by
 cases t with
 | mk c v l=>have h:c = arrW:=h;subst h;rw [reY,if_pos rfl];rfl
theorem qjx {t:Ty} (h:¬ t.con = arrW) (ha:t.args = []):reY t = qbx (qbo t):=by
 cases t with
 | mk c v l =>
   have h0:¬ c = arrW:=h
   have ha:l = []:=ha
   subst ha
   rw [reY,if_neg h0,if_pos rfl]
theorem qsd {t:Ty} (h:¬ t.con = arrW) (ha:t.args≠[]):reY t = .mk t.con 0 (reYs t.args):=by
 cases t with
 | mk c v l =>
   have h0:¬ c = arrW:=h
   have ha0:¬ l = []:=ha
   rw [reY,if_neg h0,if_neg ha0];rfl
theorem qrg {c:UInt8} (h:okCh c = true):([32,40,41]:List UInt8).contains c = false:=by
 simp only [okCh,Bool.and_eq_true,decide_eq_true_eq] at h
 obtain ⟨h1,h2,h3⟩:=h
 simp [h1,h2,h3]
theorem qhx:∀ {s r:List UInt8},s.all okCh = true->endU r->qdg (s ++ r) = s.length
 | [],[],_,_=>rfl
 | [], c :: r, _, h => by
   rw [List.nil_append,qgb]
   rcases h with rfl | rfl<;>rfl
 | c :: s, r, h, hr => by
   rw [List.all_cons,Bool.and_eq_true] at h
   rw [List.cons_append,qgb,qrg h.1,if_neg (by simp),qhx h.2 hr];rfl
theorem qdz {c d:UInt8} {s:List UInt8}:pfx [c] (d :: s) = decide (d = c):=by
 simp [pfx]
theorem qj0 {c:UInt8} {p:List UInt8}:pfx (c :: p) [] = false:=by simp [pfx]
theorem qj4 (e:List UInt8):pfx arrS (arrS ++ e) = true:=by simp [pfx,arrS]
theorem qpq {d:UInt8} {s:List UInt8} (h:d≠45):pfx arrS (32 :: d :: s) = false:=by
 unfold pfx arrS
 refine decide_eq_false fun e=>?_
 simp at e
 exact h e.1
theorem qh1 {d:UInt8} {s:List UInt8} (h:d≠32):pfx arrS (d :: s) = false:=by
 unfold pfx arrS
 refine decide_eq_false fun e=>?_
 simp at e
 exact h e.1
def endQ (e:List UInt8):Prop:=endT e∨∃ f,f≠[]∧e = arrS ++ f
theorem qje {e:List UInt8} (h:endQ e):endR e:=by
 rcases h with h | ⟨f,_,rfl⟩
 ·exact qls h
 ·exact .inr ⟨rfl,rfl⟩
theorem qk1 {w:List UInt8} (h:okNm w) (e:List UInt8):pfx [40] (w ++ e) = false:=by
 obtain ⟨c,r,rfl,_,h2,_,_⟩:=qem h
 rw [List.cons_append,qdz,decide_eq_false h2]
theorem qma {n:Nat} {r:Rd} {w e:List UInt8} (hw:okNm w) (he:endU e) (hs:r.s = w ++ e) (hb:r.bad = false):qbp (n + 1) r = (qbx w,⟨e,r.lv,false⟩):=by
 have h1:=qhx hw.2.1 he
 have h2:w.length≠0:=by intro q;exact hw.1 (List.eq_nil_of_length_eq_zero q)
 rw [qbp,if_neg (by rw [hs,qk1 hw];simp),qis,hs,h1,List.take_left]
 unfold badR cutR
 rw [hs,List.drop_left,hb,decide_eq_false h2];rfl
theorem qjs {n:Nat} {s w e:List UInt8} {d:Int} (hw:okNm w) (he:endU e) (hs:s = w ++ e) (hd:1≤d):ql2 (n + 1) s d = (qbx w,e,true):=by
 subst hs
 have h1:=qhx hw.2.1 he
 have h2:w.length≠0:=by intro q;exact hw.1 (List.eq_nil_of_length_eq_zero q)
 have h3:w ++ e≠[]:=by intro q;exact hw.1 (List.append_eq_nil_iff.1 q).1
 rw [ql2,if_neg (by intro q;rcases q with q | q;omega;exact h3 q),if_neg (by rw [qk1 hw];simp),h1,List.take_left,List.drop_left,decide_eq_true (by omega)]

/-! both readers, of a term's text -/
def pA (t:Ty):Prop :=
 (∀ (n:Nat) (r:Rd) (e:List UInt8),endU e->r.s = qea t ++ e->r.bad = false->r.lv + dpY t≤200->3 * r.s.length + 1≤n->qbp n r = (reY t,⟨e,r.lv,false⟩)) ∧
 ∀ (n:Nat) (s e:List UInt8) (d:Int),endU e->s = qea t ++ e->dpY t + 1≤d->3 * s.length + 1≤n->ql2 n s d = (reY t,e,true)
def pT (t:Ty):Prop :=
 (∀ (n:Nat) (r:Rd) (e:List UInt8),endT e->r.s = txtY t ++ e->r.bad = false->r.lv + dpY t≤200->3 * r.s.length + 2≤n->qcg n r = (reY t,⟨e,r.lv,false⟩)) ∧
 ∀ (n:Nat) (s e:List UInt8) (d:Int),endT e->s = txtY t ++ e->dpY t≤d->3 * s.length + 2≤n->typG n s d = (reY t,e,true)
def pR (t:Ty):Prop :=
 (∀ (n:Nat) (r:Rd) (e:List UInt8),endQ e->r.s = txtY t ++ e->r.bad = false->r.lv + dpY t≤201->3 * r.s.length + 1≤n->qdb n (qbp n r).1 (qbp n r).2 = (reY t,⟨e,r.lv,false⟩)) ∧
 ∀ (n:Nat) (s e:List UInt8) (d:Int),endQ e->s = txtY t ++ e->dpY t≤d->3 * s.length + 1≤n->qmk n (ql2 n s d) d = (reY t,e,true)
theorem qbd1 {t:Ty} (hs:qn t = true) (hT:pT t):pA t:=by
 by_cases h1:t.args = []
 ·have hn:=qbu hs h1
  have hw:=qcd (qm hs) hn
  refine ⟨fun n r e he hr hb hl hf=>?_,fun n s e d he hr hl hf=>?_⟩
  ·rw [qct hs h1] at hr
   obtain ⟨n,rfl⟩:∃ m,n = m + 1:=⟨n - 1,by omega⟩
   rw [qma hw he hr hb,qjx hn h1]
  ·rw [qct hs h1] at hr
   obtain ⟨n,rfl⟩:∃ m,n = m + 1:=⟨n - 1,by omega⟩
   rw [qjs hw he hr (by omega),qjx hn h1]
 ·refine ⟨fun n r e he hr hb hl hf=>?_,fun n s e d he hr hl hf=>?_⟩
  ·rw [qb7 h1] at hr
   obtain ⟨n,rfl⟩:∃ m,n = m + 1:=⟨n - 1,by omega⟩
   have hc:(cutR 1 r).s = txtY t ++ (41 :: e):=by rw [cutR,hr];simp
   have:=hT.1 n (cutR 1 r) (41 :: e) rfl hc hb hl (by rw [qcb];rw [hr] at hf ⊢;simp at hf ⊢;omega)
   rw [qbp,if_pos (by rw [hr,List.cons_append,qdz];simp),this,endA,if_neg (by simp),if_pos (by rw [qdz];simp)]
   rfl
  ·rw [qb7 h1] at hr
   obtain ⟨n,rfl⟩:∃ m,n = m + 1:=⟨n - 1,by omega⟩
   subst hr
   have hc:(40 :: (txtY t ++ [41]) ++ e).drop 1 = txtY t ++ (41 :: e):=by simp
   have:=hT.2 n _ (41 :: e) (d - 1) rfl hc (by omega) (by rw [List.length_drop];simp at hf ⊢;omega)
   rw [ql2,if_neg (by intro q;rcases q with q | q;omega;simp at q),if_pos (by rw [List.cons_append,qdz];simp),this,endG,if_pos rfl,if_pos (by rw [qdz];simp)]
   rfl
theorem qrl:∀ (l:List Ty),(∀ a∈l,qn a = true∧pA a)->∀ (n:Nat) (t:Ty) (r:Rd) (e:List UInt8),endQ e->r.s = argY l ++ e->r.bad = false->(∀ a∈l,r.lv + dpY a≤200)->3 * r.s.length + 1≤n->qdb n t r = (.mk t.con t.var (t.args ++ reYs l),⟨e,r.lv,false⟩)
 | [], _, n, t, r, e, he, hr, hb, _, hn => by
   obtain ⟨n,rfl⟩:∃ m,n = m + 1:=⟨n - 1,by omega⟩
   have hre:r.s = e:=by rw [hr,argY,List.nil_append]
   have hr0:(⟨e,r.lv,false⟩:Rd) = r:=by rw [← hre,← hb]
   have ht:(Ty.mk t.con t.var (t.args ++ reYs [])) = t:=by rw [reYs,List.append_nil];cases t;rfl
   rw [qdb,hr0,ht,if_neg]
   rintro ⟨_,q2,q3⟩
   rw [hre] at q2 q3
   rcases he with he | ⟨f,_,rfl⟩
   ·cases e with
    | nil=>rw [qj0] at q3;cases q3
    | cons c e=>rw [qdz,show c = 41 from he] at q3;simp at q3
   ·rw [qj4] at q2;cases q2
 | a :: l, h, n, t, r, e, he, hr, hb, hl, hn => by
   obtain ⟨n,rfl⟩:∃ m,n = m + 1:=⟨n - 1,by omega⟩
   obtain ⟨hsa,hpa⟩:=h a (by simp)
   obtain ⟨c,s,k1,k2⟩:=qf2 hsa
   have hr2:r.s = 32 :: (qea a ++ (argY l ++ e)):=by rw [hr,qdp];simp
   have hcut:(cutR 1 r).s = qea a ++ (argY l ++ e):=by rw [cutR,hr2];rfl
   have hea:endU (argY l ++ e):=qc5 (qje he)
   have ha:=hpa.1 n (cutR 1 r) _ hea hcut hb (hl a (by simp)) (by rw [qcb];rw [hr2] at hn ⊢;simp at hn ⊢;omega)
   rw [qdb,if_pos ⟨hb,by rw [hr2,k1,List.cons_append,qpq k2],by rw [hr2,qdz];simp⟩,ha]
   show qdb n _ (⟨argY l ++ e,r.lv,false⟩:Rd) = _
   rw [qrl l (fun x hx=>h x (by simp [hx])) n _ ⟨argY l ++ e,r.lv,false⟩ e he rfl rfl (fun x hx=>hl x (by simp [hx])) (by rw [hr2] at hn;simp at hn ⊢;omega)]
   simp [reYs,Ty.con,Ty.var,Ty.args]
theorem qnv:∀ (l:List Ty),(∀ a∈l,qn a = true∧pA a)->∀ (n:Nat) (t:Ty) (s e:List UInt8) (d:Int),endQ e->s = argY l ++ e->(∀ a∈l,dpY a + 1≤d)->3 * s.length + 1≤n->qmk n (t,s,true) d = (.mk t.con t.var (t.args ++ reYs l),e,true)
 | [], _, n, t, s, e, d, he, hr, _, hn => by
   obtain ⟨n,rfl⟩:∃ m,n = m + 1:=⟨n - 1,by omega⟩
   have hre:s = e:=by rw [hr,argY,List.nil_append]
   subst hre
   have ht:(Ty.mk t.con t.var (t.args ++ reYs [])) = t:=by rw [reYs,List.append_nil];cases t;rfl
   rw [qmk,ht,if_neg]
   rintro ⟨_,q2⟩
   dsimp only at q2
   simp only [goOn,Bool.and_eq_true,decide_eq_true_eq,Bool.not_eq_true',decide_eq_false_iff_not] at q2
   rcases he with he | ⟨f,_,rfl⟩
   ·cases s with
    | nil=>simp at q2
    | cons c e=>rw [show c = 41 from he] at q2;exact absurd q2.2.1 (by simp)
   ·exact q2.2.2 (by simp [arrS])
 | a :: l, h, n, t, s, e, d, he, hr, hl, hn => by
   obtain ⟨n,rfl⟩:∃ m,n = m + 1:=⟨n - 1,by omega⟩
   obtain ⟨hsa,hpa⟩:=h a (by simp)
   obtain ⟨c,u,k1,k2⟩:=qf2 hsa
   have hr2:s = 32 :: (qea a ++ (argY l ++ e)):=by rw [hr,qdp];simp
   have hea:endU (argY l ++ e):=qc5 (qje he)
   have hg:goOn s = true:=by
    rw [hr2,k1]
    simp only [goOn,Bool.and_eq_true,decide_eq_true_eq,Bool.not_eq_true',decide_eq_false_iff_not]
    exact ⟨by simp,rfl,k2⟩
   have ha:=hpa.2 n (s.drop 1) _ d hea (by rw [hr2];rfl) (hl a (by simp)) (by rw [List.length_drop];rw [hr2] at hn ⊢;simp at hn ⊢;omega)
   rw [qmk,if_pos ⟨rfl,hg⟩,ha,addG]
   rw [qnv l (fun x hx=>h x (by simp [hx])) n _ (argY l ++ e) e d he rfl (fun x hx=>hl x (by simp [hx])) (by rw [hr2] at hn;simp at hn ⊢;omega)]
   simp [reYs,Ty.con,Ty.var,Ty.args]
theorem qlg {c:List UInt8} (h:c≠[]) (hc:c.getD 0 0 = 33∨65≤(c.getD 0 0).toNat∧(c.getD 0 0).toNat≤90):qbx c = .mk c 0 []:=by
 have h1:(c.getD 0 0).toNat < 97:=by
  rcases hc with q | q
  ·rw [q];decide
  ·omega
 have h2:numW c = -1:=by rw [numW,if_neg h,if_pos (by omega)]
 have h3:pfx [63] c = false:=by
  cases c with
  | nil=>exact absurd rfl h
  | cons x r =>
    rw [qdz,decide_eq_false]
    intro q
    subst q
    rcases hc with q | q
    ·exact absurd q (by show ¬ ((63:UInt8) = 33);decide)
    ·have:65≤(63:UInt8).toNat:=q.1
     exact absurd this (by decide)
 rw [qbx,h2,if_neg (by omega),h3,if_neg (by simp)]
theorem qv6 {t:Ty} (hs:qn t = true) (hn:¬ t.con = arrW) (ha:t.args≠[]):qbx (qbo t) = .mk t.con 0 []:=by
 have hm:=qm hs
 rcases qbw hm hn with ⟨h1,_,_⟩ | ⟨h1,_,_⟩ | ⟨h1,h2,h3,h4,h5⟩
 ·exfalso
  rw [mayY,mayW,if_pos h1,decide_eq_true_eq] at hm
  exact ha (List.eq_nil_of_length_eq_zero (by omega))
 ·exfalso
  rw [mayY,mayW,if_pos h1,decide_eq_true_eq] at hm
  exact ha (List.eq_nil_of_length_eq_zero (by omega))
 ·rw [h3];exact qlg h1 h5
theorem qop {t a:Ty} (h:a∈t.args):dpY a + 1≤dpY t:=by rw [qr6 t];have:=qnr h;omega
theorem qbec {t:Ty} (hs:qn t = true) (hn:¬ t.con = arrW) (hA:∀ a∈t.args,qn a = true∧pA a):pR t:=by
 have hw:=qcd (qm hs) hn
 have hfin:Ty.mk (qbx (qbo t)).con (qbx (qbo t)).var ((qbx (qbo t)).args ++ reYs t.args) = reY t:=by
  by_cases ha:t.args = []
  ·rw [qjx hn ha,ha,reYs,List.append_nil]
   cases qbx (qbo t);rfl
  ·rw [qsd hn ha,qv6 hs hn ha];simp [Ty.con,Ty.var,Ty.args]
 refine ⟨fun n r e he hr hb hl hf=>?_,fun n s e d he hr hl hf=>?_⟩
 ·obtain ⟨n,rfl⟩:∃ m,n = m + 1:=⟨n - 1,by omega⟩
  rw [qc6 hn,List.append_assoc] at hr
  have hea:endU (argY t.args ++ e):=qc5 (qje he)
  rw [qma hw hea hr hb]
  have:=qrl t.args hA (n + 1) (qbx (qbo t)) ⟨argY t.args ++ e,r.lv,false⟩ e he rfl rfl (fun a ha=>by have:=qop ha;dsimp only;omega) (by rw [hr] at hf;simp at hf ⊢;omega)
  rw [this,hfin]
 ·obtain ⟨n,rfl⟩:∃ m,n = m + 1:=⟨n - 1,by omega⟩
  rw [qc6 hn,List.append_assoc] at hr
  have hea:endU (argY t.args ++ e):=qc5 (qje he)
  have h1:=qej t
  rw [qjs hw hea hr (by omega)]
  have:=qnv t.args hA (n + 1) (qbx (qbo t)) (argY t.args ++ e) e d he rfl (fun a ha=>by have:=qop ha;omega) (by rw [hr] at hf;simp at hf ⊢;omega)
  rw [this,hfin]
theorem qbb4 {t:Ty} (hs:qn t = true):txtY t≠[]:=by
 by_cases h:t.con = arrW
 ·obtain ⟨a,b,h2,_,_⟩:=qcj hs h
  rw [qdw h h2];simp
 ·obtain ⟨c,s,e,_⟩:=qfs hs h
  rw [e];simp
theorem qbad {t:Ty} (hR:pR t):pT t:=by
 refine ⟨fun n r e he hr hb hl hf=>?_,fun n s e d he hr hl hf=>?_⟩
 ·obtain ⟨n,rfl⟩:∃ m,n = m + 2:=⟨n - 2,by omega⟩
  have hlv:¬ (r.bad = true∨200 < r.lv + 1):=by
   have:=qej t
   rw [hb];intro q;rcases q with q | q
   ·cases q
   ·omega
  have h1:=hR.1 (n + 1) (lvR (r.lv + 1) r) e (.inl he) hr hb (by show r.lv + 1 + _≤_;omega) (by show 3 * r.s.length + 1≤_;omega)
  rw [qcg,if_neg hlv,h1,qhc,if_neg]
  ·show (reY t,(⟨e,r.lv + 1 - 1,false⟩:Rd)) = _
   rw [Int.add_sub_cancel]
  ·rintro ⟨_,q⟩
   dsimp only at q
   cases e with
   | nil=>rw [arrS,qj0] at q;cases q
   | cons c e=>rw [show c = 41 from he,qh1 (by decide)] at q;cases q
 ·obtain ⟨n,rfl⟩:∃ m,n = m + 2:=⟨n - 2,by omega⟩
  have h0:=qej t
  have h1:=hR.2 (n + 1) s e d (.inl he) hr hl (by omega)
  rw [typG,if_neg (by omega),h1,q1n,if_neg]
  rintro ⟨_,_,q⟩
  dsimp only at q
  cases e with
  | nil=>rw [arrS,qj0] at q;cases q
  | cons c e=>rw [show c = 41 from he,qh1 (by decide)] at q;cases q
theorem qbc7 {t a b:Ty} (h1:t.con = arrW) (h2:t.args = [a,b]) (ha:qn a = true) (hb:qn b = true) (hA:pA a) (hR:¬ a.con = arrW->pR a) (hB:pT b):pT t:=by
 have hda:=qop (t:=t) (a:=a) (by simp [h2])
 have hdb:=qop (t:=t) (a:=b) (by simp [h2])
 have hre:reY t = .mk arrW 0 [reY a,reY b]:=by rw [qs6 h1,h2,reYs,reYs,reYs]
 have hbne:=qbb4 hb
 refine ⟨fun n r e he hr hbd hl hf=>?_,fun n s e d he hr hl hf=>?_⟩
 ·obtain ⟨n,rfl⟩:∃ m,n = m + 2:=⟨n - 2,by omega⟩
  have hlv:¬ (r.bad = true∨200 < r.lv + 1):=by
   rw [hbd];intro q;rcases q with q | q
   ·cases q
   ·omega
  have hq:endQ (arrS ++ (txtY b ++ e)):=.inr ⟨_,by intro q;exact hbne (List.append_eq_nil_iff.1 q).1,rfl⟩
  have hlen:3 * (txtY b ++ e).length + 2 + 3≤3 * r.s.length:=by
   rw [hr,qdw h1 h2];simp;omega
  have hm:qdb (n + 1) (qbp (n + 1) (lvR (r.lv + 1) r)).1 (qbp (n + 1) (lvR (r.lv + 1) r)).2 = (reY a,⟨arrS ++ (txtY b ++ e),r.lv + 1,false⟩):=by
   by_cases hca:a.con = arrW
   ·have hr2:r.s = qea a ++ (arrS ++ (txtY b ++ e)):=by
     have hna:a.args≠[]:=fun q=>qbu ha q hca
     rw [hr,qd8 h1 h2 hca,qb7 hna];simp [arrU,arrS]
    have:=hA.1 (n + 1) (lvR (r.lv + 1) r) _ (qrs (qje hq)) hr2 hbd (by show r.lv + 1 + _≤_;omega) (by show 3 * r.s.length + 1≤_;omega)
    rw [this,qdb,if_neg]
    ·rfl
    ·rintro ⟨_,q,_⟩
     dsimp only at q
     rw [qj4] at q;cases q
   ·have hr2:r.s = txtY a ++ (arrS ++ (txtY b ++ e)):=by rw [hr,qeh h1 h2 hca];simp [arrU,arrS]
    exact (hR hca).1 (n + 1) (lvR (r.lv + 1) r) _ hq hr2 hbd (by show r.lv + 1 + _≤_;omega) (by show 3 * r.s.length + 1≤_;omega)
  rw [qcg,if_neg hlv,hm,qhc,if_pos ⟨rfl,qj4 _⟩]
  have hc:cutR 4 (⟨arrS ++ (txtY b ++ e),r.lv + 1,false⟩:Rd) = ⟨txtY b ++ e,r.lv + 1,false⟩:=by simp [cutR,arrS]
  dsimp only
  rw [hc,hB.1 n ⟨txtY b ++ e,r.lv + 1,false⟩ e he rfl rfl (by dsimp only;omega) (by dsimp only;omega),hre]
  show ((_:Ty),(⟨e,r.lv + 1 - 1,false⟩:Rd)) = _
  rw [Int.add_sub_cancel]
 ·obtain ⟨n,rfl⟩:∃ m,n = m + 2:=⟨n - 2,by omega⟩
  have hq:endQ (arrS ++ (txtY b ++ e)):=.inr ⟨_,by intro q;exact hbne (List.append_eq_nil_iff.1 q).1,rfl⟩
  have hlen:3 * (txtY b ++ e).length + 2 + 3≤3 * s.length:=by
   rw [hr,qdw h1 h2];simp;omega
  have hm:qmk (n + 1) (ql2 (n + 1) s d) d = (reY a,arrS ++ (txtY b ++ e),true):=by
   by_cases hca:a.con = arrW
   ·have hr2:s = qea a ++ (arrS ++ (txtY b ++ e)):=by
     have hna:a.args≠[]:=fun q=>qbu ha q hca
     rw [hr,qd8 h1 h2 hca,qb7 hna];simp [arrU,arrS]
    have:=hA.2 (n + 1) s _ d (qrs (qje hq)) hr2 (by omega) (by omega)
    rw [this,qmk,if_neg]
    rintro ⟨_,q⟩
    dsimp only at q
    simp only [goOn,Bool.and_eq_true,Bool.not_eq_true',decide_eq_false_iff_not] at q
    exact q.2.2 (by simp [arrS])
   ·have hr2:s = txtY a ++ (arrS ++ (txtY b ++ e)):=by rw [hr,qeh h1 h2 hca];simp [arrU,arrS]
    exact (hR hca).2 (n + 1) s _ d hq hr2 (by omega) (by omega)
  have hl4:4 < (arrS ++ (txtY b ++ e)).length:=by
   have:0 < (txtY b).length:=List.length_pos_iff.2 hbne
   simp [arrS];omega
  have hc:(arrS ++ (txtY b ++ e)).drop 4 = txtY b ++ e:=by simp [arrS]
  have hdp:=qej a
  rw [typG,if_neg (by omega),hm,q1n,if_pos ⟨rfl,hl4,qj4 _⟩]
  dsimp only
  rw [hc,hB.2 n (txtY b ++ e) e (d - 1) he rfl (by omega) (by omega),hre]
theorem qbd9:∀ t:Ty,qn t = true->pT t∧pA t∧(¬ t.con = arrW->pR t):=Ty.ind fun t ih hs=>by
 have hih:∀ a∈t.args,qn a = true∧pA a:=fun a ha=>⟨qce hs ha,(ih a ha (qce hs ha)).2.1⟩
 have hR:¬ t.con = arrW->pR t:=fun hn=>qbec hs hn hih
 have hT:pT t:=by
  by_cases h:t.con = arrW
  ·obtain ⟨a,b,h2,ha,hb⟩:=qcj hs h
   have ia:=ih a (by simp [h2]) ha
   have ib:=ih b (by simp [h2]) hb
   exact qbc7 h h2 ha hb ia.2.1 ia.2.2 ib.1
  ·exact qbad (hR h)
 exact ⟨hT,qbd1 hs hT,hR⟩
theorem qwh {t:Ty} (h:qbz t = true):dpY t≤100:=by
 rw [qbz,Bool.and_eq_true,Bool.and_eq_true,decide_eq_true_eq,decide_eq_true_eq] at h;exact h.2.1
theorem qlu {t:Ty} (h:qbz t = true):qbd (txtY t) = (reY t,⟨[],0,false⟩):=by
 have hd:=qwh h
 exact (qbd9 t (qbi h)).1.1 _ ⟨txtY t,0,false⟩ [] trivial (by simp) rfl (by dsimp only;omega) (Nat.le_refl _)
/-! a term's text is read as that term -/
theorem quj:∀ u:Nat,digW (digN u) = true∧digN u≠[]:=fun u=>by
 induction u using Nat.strongRecOn with
 | _ u ih =>
   have hd:∀ d:Nat,d < 10->qb9 (UInt8.ofNat (48 + d)).toNat = true:=fun d hd=>by
    have h8:(UInt8.ofNat (48 + d)).toNat = 48 + d:=by rw [UInt8.toNat_ofNat'];omega
    simp only [qb9,Bool.and_eq_true,decide_eq_true_eq,h8];omega
   by_cases h:u < 10
   ·rw [qca h]
    refine ⟨?_,by simp⟩
    simp only [digW,List.all_cons,List.all_nil,Bool.and_true]
    exact hd u h
   ·rw [qe6 (by omega)]
    refine ⟨?_,by simp⟩
    have h1:=(ih (u / 10) (by omega)).1
    simp only [digW] at h1 ⊢
    rw [List.all_append,h1]
    simp only [List.all_cons,List.all_nil,Bool.and_true,Bool.true_and]
    exact hd _ (by omega)
theorem qi2:∀ (a b:List UInt8) (k:Int),(qb5 k a).2 = 0->qb5 k (a ++ b) = qb5 (qb5 k a).1 b
 | [],b,k,_=>rfl
 | c :: r, b, k, h => by
   rw [List.cons_append]
   rw [qb5] at h ⊢
   split
   ·rename_i hc;rw [if_pos hc] at h;simp at h
   ·rename_i hc
    rw [if_neg hc] at h
    rw [qi2 r b _ h]
    conv=>rhs;rw [qb5,if_neg hc]
theorem qqu:∀ u:Nat,u≤9223372036854775807->qb5 0 (digN u) = ((u:Int),0):=fun u=>by
 induction u using Nat.strongRecOn with
 | _ u ih =>
   intro hu
   have hdig:∀ d:Nat,d < 10->digV (UInt8.ofNat (48 + d)) = (d:Int):=fun d hd=>by
    have h8:(UInt8.ofNat (48 + d)).toNat = 48 + d:=by rw [UInt8.toNat_ofNat'];omega
    unfold digV
    rw [h8,qjd (by omega) (by omega),qv (by omega) (by omega)];omega
   have htop:∀ d:Nat,d < 10->topV (UInt8.ofNat (48 + d)) = (9223372036854775807 - (d:Int)) / 10:=fun d hd=>by
    unfold topV
    rw [hdig d hd]
    have e1:IntKind.i64.wrap (9223372036854775807 - (d:Int)) = 9223372036854775807 - (d:Int):=qv (by omega) (by omega)
    rw [e1,Int.tdiv_eq_ediv_of_nonneg (by omega)];exact qv (by omega) (by omega)
   have hnx:∀ (d:Nat) (k:Int),d < 10->0≤k->10 * k + d≤9223372036854775807->nxtV k (UInt8.ofNat (48 + d)) = 10 * k + d:=fun d k hd hk hb=>by
    unfold nxtV
    rw [hdig d hd]
    have e1:IntKind.i64.wrap (10 * k) = 10 * k:=qv (by omega) (by omega)
    rw [e1];exact qv (by omega) (by omega)
   by_cases h:u < 10
   ·rw [qca h,qb5,htop u h,if_neg (by omega),hnx u 0 h (by omega) (by omega),qb5]
    simp
   ·have h1:=ih (u / 10) (by omega) (by omega)
    rw [qe6 h,qi2 _ _ _ (by rw [h1]),h1]
    dsimp only
    rw [qb5,htop (u % 10) (by omega),if_neg (by omega),hnx (u % 10) _ (by omega) (by omega) (by omega),qb5]
    congr 1
    omega
theorem qi9 {u:Nat} (h:u≤9223372036854775807):qdh (digN u) = ((u:Int),0):=by
 obtain ⟨h1,h2⟩:=quj u
 rw [qel h2 h1,qqu u h]
theorem qvf {v:Int} (h0:0≤v) (h1:v≤4611686018427387904):numW (ltrI v) = v:=by
 have hg:numG (ltrI v) v = v:=by rw [numG,if_neg (by omega),if_pos rfl]
 have e:ltrI v = if v < 26 then [UInt8.ofNat (97 + v.toNat)] else UInt8.ofNat (97 + v.toNat % 26) :: digN (v.toNat / 26):=by rw [ltrI,if_neg (by omega)]
 by_cases h:v < 26
 ·rw [if_pos h] at e
  have h8:(UInt8.ofNat (97 + v.toNat)).toNat = 97 + v.toNat:=by rw [UInt8.toNat_ofNat'];omega
  have hd:(ltrI v).getD 0 0 = UInt8.ofNat (97 + v.toNat):=by rw [e];rfl
  have hl:¬ 1 < ((ltrI v).length:Int):=by rw [e];simp
  have h9:(((ltrI v).getD 0 0).toNat:Int) = 97 + v:=by rw [hd,h8];omega
  rw [numW,if_neg (by rw [e];simp),h9,if_neg (by omega),if_neg (by omega),if_neg hl,show (97 + v - 97:Int) = v by omega,hg]
 ·rw [if_neg h] at e
  have h8:(UInt8.ofNat (97 + v.toNat % 26)).toNat = 97 + v.toNat % 26:=by rw [UInt8.toNat_ofNat'];omega
  have hd:(ltrI v).getD 0 0 = UInt8.ofNat (97 + v.toNat % 26):=by rw [e];rfl
  have hp:=qgt (v.toNat / 26)
  have hl:1 < ((ltrI v).length:Int):=by rw [e,List.length_cons];omega
  have hdr:(ltrI v).drop 1 = digN (v.toNat / 26):=by rw [e];rfl
  have h9:(((ltrI v).getD 0 0).toNat:Int) = 97 + (v.toNat % 26:Nat):=by rw [hd,h8];omega
  have hr:=qi9 (u:=v.toNat / 26) (by omega)
  rw [numW,if_neg (by rw [e];simp),h9,if_neg (by omega),if_neg (by omega),if_pos hl,hdr,hr]
  dsimp only
  rw [if_pos rfl,if_neg (by omega),show (26 * ((v.toNat / 26:Nat):Int) + (97 + ((v.toNat % 26:Nat):Int) - 97)) = v by omega,hg]
theorem ql1 {t:Ty} (hs:qn t = true) (ha:t.args = []) (hv:inI t.var) (h2:t.var≤4611686018427387904):qbx (qbo t) = t:=by
 have hn:=qbu hs ha
 have het:∀ c v,t.con = c->t.var = v->Ty.mk c v [] = t:=fun c v q1 q2=>qjc q1.symm q2.symm ha.symm
 rcases qbw (qm hs) hn with ⟨h1,h3,h4⟩ | ⟨h1,h3,h4⟩ | ⟨h1,h3,h4,h5,h6⟩
 ·rw [h4,qbx,qvf h3 h2,if_pos h3];exact het _ _ h1 rfl
 ·have h63:((63:UInt8).toNat:Int) < 97:=by decide
  have hnum:numW (63 :: digI (-1 - t.var)) = -1:=by rw [numW,if_neg (by simp),if_pos (by exact h63)]
  have hi:inI t.var:=hv
  unfold inI at hi
  have hdg:digI (-1 - t.var) = digN (-1 - t.var).natAbs:=by rw [digI,if_neg (by omega)]
  have hr:=qi9 (u:=(-1 - t.var).natAbs) (by omega)
  rw [h4,qbx,hnum,if_neg (by omega),if_pos (by rw [qdz];simp),List.drop_succ_cons,List.drop_zero,hdg,hr]
  dsimp only
  rw [if_pos rfl]
  exact het _ _ h1 (by omega)
 ·rw [h4,qlg h1 h6];exact het _ _ rfl h3
theorem qik:∀ {l:List Ty},(∀ a∈l,reY a = a)->reYs l = l
 | [],_=>by rw [reYs]
 | a :: l,h=>by rw [reYs,h a (by simp),qik fun x hx=>h x (by simp [hx])]
theorem qmc:∀ {l:List Ty} {a:Ty} {v:Int},a∈l->v∈varY a->v∈qft l
 | b :: l, a, v, h, hv => by
   rw [qft,List.mem_append]
   rcases List.mem_cons.1 h with rfl | h
   ·exact .inl hv
   ·exact .inr (qmc h hv)
theorem qoo:∀ t:Ty,qn t = true->vrY t->(∀ v∈varY t,v≤4611686018427387904)->reY t = t:=Ty.ind fun t ih hs hv hm=>by
 obtain ⟨hv1,hv2⟩:=(qoe t).1 hv
 have hia:∀ a∈t.args,reY a = a:=fun a ha=>ih a ha (qce hs ha) (qfc hv2 ha) fun v h=>hm v (by rw [qty];exact List.mem_append_right _ (qmc ha h))
 by_cases hn:t.con = arrW
 ·rw [qs6 hn,qik hia]
  exact qjc hn.symm (qm4 (qm hs) hn).symm rfl
 ·by_cases ha:t.args = []
  ·rw [qjx hn ha]
   by_cases hc:t.con = []
   ·exact ql1 hs ha hv1 (hm _ (by rw [qty,if_pos hc];simp))
   ·have h0:t.var = 0:=by
     rcases qbw (qm hs) hn with ⟨h1,_⟩ | ⟨h1,_⟩ | ⟨_,h3,_⟩
     ·exact absurd h1 hc
     ·exact absurd h1 hc
     ·exact h3
    exact ql1 hs ha hv1 (by rw [h0];omega)
  ·have h0:t.var = 0:=by
    rcases qbw (qm hs) hn with ⟨h1,_⟩ | ⟨h1,_⟩ | ⟨_,h3,_⟩
    ·have hmm:=qm hs
     rw [mayY,mayW,if_pos h1,decide_eq_true_eq] at hmm
     exact absurd (List.eq_nil_of_length_eq_zero (by omega)) ha
    ·have hmm:=qm hs
     rw [mayY,mayW,if_pos h1,decide_eq_true_eq] at hmm
     exact absurd (List.eq_nil_of_length_eq_zero (by omega)) ha
    ·exact h3
   rw [qsd hn ha,qik hia]
   exact qjc rfl h0.symm rfl
theorem qsa {t:Ty} (h:qbz t = true) (hv:vrY t) (hm:∀ v∈varY t,v≤4611686018427387904):qe0 (txtY t) = (t,0):=by
 have hr:=qoo t (qbi h) hv hm
 unfold qe0
 rw [qlu h,hr]
 dsimp only
 rw [if_neg (by simp),if_pos rfl,if_pos (by rw [qbn,if_pos h])]
end Go.Proofs.Ytlahgbhhejkgbaa
