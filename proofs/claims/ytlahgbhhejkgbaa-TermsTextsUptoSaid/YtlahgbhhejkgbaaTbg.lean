/- Texts of this proof, joined. -/
import Derived.Test.YtlahgbhhejkgbaaTbb
import Derived.Test.YtlahgbhhejkgbaaTbe
set_option linter.unusedVariables false
set_option linter.unusedSimpArgs false

/- texts of terms: unlike terms have unlike texts -/
namespace Go.Proofs.Ytlahgbhhejkgbaa
open Go Go.RowKit Go.V

/-! digits -/
def valN (s:List UInt8):Nat:=s.foldl (fun a c=>10 * a + (c.toNat - 48)) 0
theorem qbd4:∀ (n u:Nat),u≤n->valN (digN u) = u:=by
 intro n
 induction n with
 | zero => intro u hu; have : u = 0 := by omega
           subst this;rw [qcu (by omega)];decide
 | succ n ih =>
   intro u hu
   by_cases h:u < 10
   ·rw [qcu h]
    have:(UInt8.ofNat (48 + u)).toNat = 48 + u:=by rw [UInt8.toNat_ofNat'];omega
    simp only [valN,List.foldl_cons,List.foldl_nil,this];omega
   ·rw [qh2 h]
    have h1:=ih (u / 10) (by omega)
    have:(UInt8.ofNat (48 + u % 10)).toNat = 48 + u % 10:=by rw [UInt8.toNat_ofNat'];omega
    simp only [valN,List.foldl_append,List.foldl_cons,List.foldl_nil,this] at h1 ⊢
    rw [h1];omega
def qvf (c:UInt8):Bool:=decide (48≤c.toNat) && decide (c.toNat≤57)
theorem qpb:∀ (n u:Nat),u≤n->(digN u).all qvf = true:=by
 intro n
 induction n with
 | zero => intro u hu; have : u = 0 := by omega
           subst this;rw [qcu (by omega)];decide
 | succ n ih =>
   intro u hu
   by_cases h:u < 10
   ·rw [qcu h]
    have:(UInt8.ofNat (48 + u)).toNat = 48 + u:=by rw [UInt8.toNat_ofNat'];omega
    simp only [List.all_cons,List.all_nil,qvf,this,Bool.and_true,Bool.and_eq_true,decide_eq_true_eq];omega
   ·rw [qh2 h,List.all_append,ih (u / 10) (by omega)]
    have:(UInt8.ofNat (48 + u % 10)).toNat = 48 + u % 10:=by rw [UInt8.toNat_ofNat'];omega
    simp only [List.all_cons,List.all_nil,qvf,this,Bool.and_true,Bool.true_and,Bool.and_eq_true,decide_eq_true_eq];omega
/-! names -/
def okCh (c:UInt8):Bool:=decide (c≠32) && (decide (c≠40) && decide (c≠41))
def okNm (s:List UInt8):Prop:=s≠[]∧s.all okCh = true∧s.getD 0 0≠45
theorem qcr {c d:UInt8} (h:c.toNat≠d.toNat):c≠d:=fun e=>h (by rw [e])
theorem qmx {c:UInt8} (h:42≤c.toNat∨(33≤c.toNat∧c.toNat≤39)):okCh c = true:=by
 have h1:c≠32:=qcr (by rw [show (32:UInt8).toNat = 32 from rfl];omega)
 have h2:c≠40:=qcr (by rw [show (40:UInt8).toNat = 40 from rfl];omega)
 have h3:c≠41:=qcr (by rw [show (41:UInt8).toNat = 41 from rfl];omega)
 simp [okCh,h1,h2,h3]
theorem qob {s:List UInt8} (h:s.all qvf = true):s.all okCh = true:=by
 rw [List.all_eq_true] at h ⊢
 intro c hc
 have:=h c hc
 simp only [qvf,Bool.and_eq_true,decide_eq_true_eq] at this
 exact qmx (by omega)
theorem qly (a:Int):(digI a).all okCh = true:=by
 have:=qob (qpb _ a.natAbs (Nat.le_refl _))
 rw [digI];split
 ·rw [List.all_cons,this];decide
 ·exact this
theorem q7f {s:List UInt8} (h:onsW s = true):s.all okCh = true:=by
 rw [onsW,List.all_eq_true] at h
 rw [List.all_eq_true]
 intro c hc
 have:=h c hc
 simp only [onW,qjq,qd9,qb8,Bool.or_eq_true,Bool.and_eq_true,decide_eq_true_eq] at this
 exact qmx (by omega)
theorem qqx {a:Int} (ha:0≤a):∃ c r,ltrI a = c :: r∧97≤c.toNat∧c.toNat≤122∧r.all okCh = true:=by
 rw [ltrI,if_neg (by omega)]
 split
 ·refine ⟨_,[],rfl,?_,?_,rfl⟩<;>(rw [UInt8.toNat_ofNat'];omega)
 ·refine ⟨_,_,rfl,?_,?_,qob (qpb _ _ (Nat.le_refl _))⟩<;>(rw [UInt8.toNat_ofNat'];omega)
theorem qg3 {t:Ty} (h:mayY t = true) (hn:¬ t.con = arrW) :
 (t.con = []∧0≤t.var∧qbn t = ltrI t.var)∨(t.con = []∧t.var < 0∧qbn t = 63 :: digI (-1 - t.var))∨(t.con≠[]∧t.var = 0∧qbn t = t.con∧t.con.all okCh = true∧(t.con.getD 0 0 = 33∨65≤(t.con.getD 0 0).toNat∧(t.con.getD 0 0).toNat≤90)):=by
 rw [mayY,mayW] at h
 by_cases hc:t.con = []
 ·by_cases hv:0≤t.var
  ·exact .inl ⟨hc,hv,by rw [qbn,if_pos hc,if_pos hv]⟩
  ·exact .inr (.inl ⟨hc,by omega,by rw [qbn,if_pos hc,if_neg hv]⟩)
 ·rw [if_neg hc,if_neg hn] at h
  refine .inr (.inr ⟨hc,?_⟩)
  by_cases hf:fixW t.con = true
  ·rw [if_pos hf,Bool.and_eq_true,decide_eq_true_eq] at h
   simp only [fixW,Bool.and_eq_true,decide_eq_true_eq] at hf
   obtain ⟨h1,h2,h3⟩:=hf
   have h0:∃ r,t.con = 33 :: r:=by
    cases hh:t.con with
    | nil=>exact absurd hh hc
    | cons c r=>rw [hh] at h1;simp [pfx] at h1;exact ⟨r,by rw [← h1]⟩
   obtain ⟨r,hr⟩:=h0
   refine ⟨h.1,by rw [qbn,if_neg hc],?_,.inl (by rw [hr];rfl)⟩
   rw [hr] at h3 ⊢
   rw [List.drop_succ_cons,List.drop_zero] at h3
   rw [List.all_cons,← h3,qly];decide
  ·rw [if_neg hf,Bool.and_eq_true,decide_eq_true_eq] at h
   obtain ⟨h1,h2⟩:=h
   simp only [conW,Bool.and_eq_true,qd9,decide_eq_true_eq] at h2
   refine ⟨h1,by rw [qbn,if_neg hc],q7f h2.2,.inr (by omega)⟩
theorem qgx {t:Ty} (h:mayY t = true) (hn:¬ t.con = arrW):okNm (qbn t):=by
 rcases qg3 h hn with ⟨h1,h2,h3⟩ | ⟨h1,h2,h3⟩ | ⟨h1,h2,h3,h4,h5⟩
 ·obtain ⟨c,r,e,h4,h5,h6⟩:=qqx h2
  rw [h3,e]
  refine ⟨by simp,by rw [List.all_cons,h6,qmx (by omega)];rfl,qcr (show c.toNat≠45 by omega)⟩
 ·rw [h3]
  exact ⟨by simp,by rw [List.all_cons,qly];decide,by show (63:UInt8)≠45;decide⟩
 ·rw [h3]
  refine ⟨h1,h4,?_⟩
  rcases h5 with h5 | h5
  ·rw [h5];decide
  ·exact qcr (show _≠45 by omega)
/-! rests -/
def endU:List UInt8->Prop
 | []=>True
 | c :: _=>c = 32∨c = 41
def endR:List UInt8->Prop
 | []=>True
 | c :: r=>c = 41∨(c = 32∧r.getD 0 0 = 45)
def endT:List UInt8->Prop
 | []=>True
 | c :: _=>c = 41
theorem qbcu {r:List UInt8} (h:endT r):endR r:=by cases r with | nil=>trivial | cons c r=>exact .inl h
theorem qsb {r:List UInt8} (h:endR r):endU r:=by
 cases r with
 | nil=>trivial
 | cons c r => rcases h with h | h
               ·exact .inr h
               ·exact .inl h.1
theorem qhb {s:List UInt8} (h:okNm s):∃ c r,s = c :: r∧c≠32∧c≠40∧c≠41∧c≠45:=by
 obtain ⟨h1,h2,h3⟩:=h
 cases s with
 | nil=>exact absurd rfl h1
 | cons c r =>
   rw [List.all_cons,Bool.and_eq_true] at h2
   have:=h2.1
   simp only [okCh,Bool.and_eq_true,decide_eq_true_eq] at this
   exact ⟨c,r,rfl,this.1,this.2.1,this.2.2,h3⟩

def qf2 (t:Ty):List UInt8:=parW (decide (t.args≠[])) (txtY t)
theorem qep {t:Ty} (h:qu t = true):mayY t = true:=by rw [qee,Bool.and_eq_true] at h;exact h.2
theorem qfm {t:Ty} (h:qu t = true) (h1:t.args = []):¬ t.con = arrW:=fun hc=>by
 obtain ⟨a,b,h2,_⟩:=qdo h hc
 rw [h1] at h2;cases h2
theorem qhq {t:Ty} (h:qu t = true) (h1:t.args = []):qf2 t = qbn t:=by
 rw [qf2,h1,parW,if_neg (by simp),qc7 (qfm h h1),h1];simp [argY]
theorem qeb {t:Ty} (h1:t.args≠[]):qf2 t = 40 :: (txtY t ++ [41]):=by rw [qf2,parW,if_pos (by simp [h1])]
theorem qin (a:Ty) (l:List Ty):argY (a :: l) = 32 :: (qf2 a ++ argY l):=by rw [argY];rfl
theorem qje {t:Ty} (hs:qu t = true):∃ c s,qf2 t = c :: s∧c≠45:=by
 by_cases h1:t.args = []
 ·rw [qhq hs h1]
  obtain ⟨c,s,k1,k2,k3,k4,k5⟩:=qhb (qgx (qep hs) (qfm hs h1))
  exact ⟨c,s,k1,k5⟩
 ·rw [qeb h1];exact ⟨40,_,rfl,by decide⟩
theorem qgv {l:List Ty} {r:List UInt8} (hr:endR r):endU (argY l ++ r):=by
 cases l with
 | nil=>exact qsb hr
 | cons a l=>rw [qin];exact .inl rfl
def arrU:List UInt8:=[32,45,62,32]
theorem qvo {t:Ty} (hs:qu t = true) (hn:¬ t.con = arrW):∃ c s,txtY t = c :: s∧c≠40:=by
 obtain ⟨c,s,k1,k2,k3,k4,k5⟩:=qhb (qgx (qep hs) hn)
 rw [qc7 hn,k1]
 exact ⟨c,_,rfl,k3⟩
theorem quu {a b t:Ty} (h:t.con = arrW) (h2:t.args = [a,b]) (ha:a.con = arrW):txtY t = 40 :: (txtY a ++ (41 :: (arrU ++ txtY b))):=by
 rw [qc9 h h2,parW,if_pos (by simp [ha])];simp [arrU]
theorem quk {a b t:Ty} (h:t.con = arrW) (h2:t.args = [a,b]) (ha:¬ a.con = arrW):txtY t = txtY a ++ (arrU ++ txtY b):=by
 rw [qc9 h h2,parW,if_neg (by simp [ha])];rfl

/-! the reference's reader -/
abbrev P3:=Ty×List UInt8×Bool
def endG (p:P3):P3:=if p.2.2 = true then (if pfx [41] p.2.1 = true then (p.1,p.2.1.drop 1,true) else (p.1,p.2.1,false)) else (p.1,p.2.1,false)
def addG (t:Ty) (a:P3):P3:=(.mk t.con t.var (t.args ++ [a.1]),a.2.1,a.2.2)
def goOn (s:List UInt8):Bool:=decide (1 < s.length) && (decide (s.getD 0 0 = 32) && !decide (s.getD 1 0 = 45))
mutual
def qca:Nat->List UInt8->Int->P3
 | 0,s,_=>(Y0,s,false)
 | n + 1,s,d=>if d < 1∨s = [] then (Y0,s,false) else if pfx [40] s = true then endG (typG n (s.drop 1) (d - 1)) else (qbr (s.take (qbh s)),s.drop (qbh s),decide (0 < qbh s))
def qc3:Nat->P3->Int->P3
 | 0,p,_=>p
 | n + 1,p,d=>if p.2.2 = true∧goOn p.2.1 = true then qc3 n (addG p.1 (qca n (p.2.1.drop 1) d)) d else p
def typG:Nat->List UInt8->Int->P3
 | 0,s,_=>(Y0,s,false)
 | n + 1,s,d=>if d < 1 then (Y0,s,false) else qik n (qc3 n (qca n s d) d) d
def qik:Nat->P3->Int->P3
 | 0,p,_=>p
 | n + 1,p,d=>if p.2.2 = true∧4 < p.2.1.length∧pfx arrS p.2.1 = true then (.mk arrW 0 [p.1,(typG n (p.2.1.drop 4) (d - 1)).1],(typG n (p.2.1.drop 4) (d - 1)).2.1,(typG n (p.2.1.drop 4) (d - 1)).2.2) else p
end

/-! words -/
mutual
def reY:Ty->Ty
 | .mk c v l=>if c = arrW then .mk arrW 0 (reYs l) else if l = [] then qbr (qbn (.mk c v [])) else .mk c 0 (reYs l)
def reYs:List Ty->List Ty
 | []=>[]
 | x :: r=>reY x :: reYs r
end
theorem q6d {t:Ty} (h:t.con = arrW):reY t = .mk arrW 0 (reYs t.args):=by
 cases t with
 | mk c v l=>have h:c = arrW:=h;subst h;rw [reY,if_pos rfl];rfl
theorem qnl {t:Ty} (h:¬ t.con = arrW) (ha:t.args = []):reY t = qbr (qbn t):=by
 cases t with
 | mk c v l =>
   have h0:¬ c = arrW:=h
   have ha:l = []:=ha
   subst ha
   rw [reY,if_neg h0,if_pos rfl]
theorem q39 {t:Ty} (h:¬ t.con = arrW) (ha:t.args≠[]):reY t = .mk t.con 0 (reYs t.args):=by
 cases t with
 | mk c v l =>
   have h0:¬ c = arrW:=h
   have ha0:¬ l = []:=ha
   rw [reY,if_neg h0,if_neg ha0];rfl
theorem qut {c:UInt8} (h:okCh c = true):([32,40,41]:List UInt8).contains c = false:=by
 simp only [okCh,Bool.and_eq_true,decide_eq_true_eq] at h
 obtain ⟨h1,h2,h3⟩:=h
 simp [h1,h2,h3]
theorem qg7:∀ {s r:List UInt8},s.all okCh = true->endU r->qbh (s ++ r) = s.length
 | [],[],_,_=>rfl
 | [], c :: r, _, h => by
   rw [List.nil_append,qdj]
   rcases h with rfl | rfl<;>rfl
 | c :: s, r, h, hr => by
   rw [List.all_cons,Bool.and_eq_true] at h
   rw [List.cons_append,qdj,qut h.1,if_neg (by simp),qg7 h.2 hr];rfl
theorem qdp {c d:UInt8} {s:List UInt8}:pfx [c] (d :: s) = decide (d = c):=by
 simp [pfx]
theorem qkc {c:UInt8} {p:List UInt8}:pfx (c :: p) [] = false:=by simp [pfx]
theorem qkd (e:List UInt8):pfx arrS (arrS ++ e) = true:=by simp [pfx,arrS]
theorem qqt {d:UInt8} {s:List UInt8} (h:d≠45):pfx arrS (32 :: d :: s) = false:=by
 unfold pfx arrS
 refine decide_eq_false fun e=>?_
 simp at e
 exact h e.1
theorem qii {d:UInt8} {s:List UInt8} (h:d≠32):pfx arrS (d :: s) = false:=by
 unfold pfx arrS
 refine decide_eq_false fun e=>?_
 simp at e
 exact h e.1
def endQ (e:List UInt8):Prop:=endT e∨∃ f,f≠[]∧e = arrS ++ f
theorem qjr {e:List UInt8} (h:endQ e):endR e:=by
 rcases h with h | ⟨f,_,rfl⟩
 ·exact qbcu h
 ·exact .inr ⟨rfl,rfl⟩
theorem qk7 {w:List UInt8} (h:okNm w) (e:List UInt8):pfx [40] (w ++ e) = false:=by
 obtain ⟨c,r,rfl,_,h2,_,_⟩:=qhb h
 rw [List.cons_append,qdp,decide_eq_false h2]
theorem qlm {n:Nat} {r:Rd} {w e:List UInt8} (hw:okNm w) (he:endU e) (hs:r.s = w ++ e) (hb:r.bad = false):qbp (n + 1) r = (qbr w,⟨e,r.lv,false⟩):=by
 have h1:=qg7 hw.2.1 he
 have h2:w.length≠0:=by intro q;exact hw.1 (List.eq_nil_of_length_eq_zero q)
 rw [qbp,if_neg (by rw [hs,qk7 hw];simp),qiy,hs,h1,List.take_left]
 unfold badR cutR
 rw [hs,List.drop_left,hb,decide_eq_false h2];rfl
theorem qji {n:Nat} {s w e:List UInt8} {d:Int} (hw:okNm w) (he:endU e) (hs:s = w ++ e) (hd:1≤d):qca (n + 1) s d = (qbr w,e,true):=by
 subst hs
 have h1:=qg7 hw.2.1 he
 have h2:w.length≠0:=by intro q;exact hw.1 (List.eq_nil_of_length_eq_zero q)
 have h3:w ++ e≠[]:=by intro q;exact hw.1 (List.append_eq_nil_iff.1 q).1
 rw [qca,if_neg (by intro q;rcases q with q | q;omega;exact h3 q),if_neg (by rw [qk7 hw];simp),h1,List.take_left,List.drop_left,decide_eq_true (by omega)]

/-! both readers, of a term's text -/
def pA (t:Ty):Prop :=
 (∀ (n:Nat) (r:Rd) (e:List UInt8),endU e->r.s = qf2 t ++ e->r.bad = false->r.lv + dpY t≤200->3 * r.s.length + 1≤n->qbp n r = (reY t,⟨e,r.lv,false⟩)) ∧
 ∀ (n:Nat) (s e:List UInt8) (d:Int),endU e->s = qf2 t ++ e->dpY t + 1≤d->3 * s.length + 1≤n->qca n s d = (reY t,e,true)
def pT (t:Ty):Prop :=
 (∀ (n:Nat) (r:Rd) (e:List UInt8),endT e->r.s = txtY t ++ e->r.bad = false->r.lv + dpY t≤200->3 * r.s.length + 2≤n->qch n r = (reY t,⟨e,r.lv,false⟩)) ∧
 ∀ (n:Nat) (s e:List UInt8) (d:Int),endT e->s = txtY t ++ e->dpY t≤d->3 * s.length + 2≤n->typG n s d = (reY t,e,true)
def pR (t:Ty):Prop :=
 (∀ (n:Nat) (r:Rd) (e:List UInt8),endQ e->r.s = txtY t ++ e->r.bad = false->r.lv + dpY t≤201->3 * r.s.length + 1≤n->qdd n (qbp n r).1 (qbp n r).2 = (reY t,⟨e,r.lv,false⟩)) ∧
 ∀ (n:Nat) (s e:List UInt8) (d:Int),endQ e->s = txtY t ++ e->dpY t≤d->3 * s.length + 1≤n->qc3 n (qca n s d) d = (reY t,e,true)
theorem qbi9 {t:Ty} (hs:qu t = true) (hT:pT t):pA t:=by
 by_cases h1:t.args = []
 ·have hn:=qfm hs h1
  have hw:=qgx (qep hs) hn
  refine ⟨fun n r e he hr hb hl hf=>?_,fun n s e d he hr hl hf=>?_⟩
  ·rw [qhq hs h1] at hr
   obtain ⟨n,rfl⟩:∃ m,n = m + 1:=⟨n - 1,by omega⟩
   rw [qlm hw he hr hb,qnl hn h1]
  ·rw [qhq hs h1] at hr
   obtain ⟨n,rfl⟩:∃ m,n = m + 1:=⟨n - 1,by omega⟩
   rw [qji hw he hr (by omega),qnl hn h1]
 ·refine ⟨fun n r e he hr hb hl hf=>?_,fun n s e d he hr hl hf=>?_⟩
  ·rw [qeb h1] at hr
   obtain ⟨n,rfl⟩:∃ m,n = m + 1:=⟨n - 1,by omega⟩
   have hc:(cutR 1 r).s = txtY t ++ (41 :: e):=by rw [cutR,hr];simp
   have:=hT.1 n (cutR 1 r) (41 :: e) rfl hc hb hl (by rw [qcb];rw [hr] at hf ⊢;simp at hf ⊢;omega)
   rw [qbp,if_pos (by rw [hr,List.cons_append,qdp];simp),this,endA,if_neg (by simp),if_pos (by rw [qdp];simp)]
   rfl
  ·rw [qeb h1] at hr
   obtain ⟨n,rfl⟩:∃ m,n = m + 1:=⟨n - 1,by omega⟩
   subst hr
   have hc:(40 :: (txtY t ++ [41]) ++ e).drop 1 = txtY t ++ (41 :: e):=by simp
   have:=hT.2 n _ (41 :: e) (d - 1) rfl hc (by omega) (by rw [List.length_drop];simp at hf ⊢;omega)
   rw [qca,if_neg (by intro q;rcases q with q | q;omega;simp at q),if_pos (by rw [List.cons_append,qdp];simp),this,endG,if_pos rfl,if_pos (by rw [qdp];simp)]
   rfl
theorem qva:∀ (l:List Ty),(∀ a∈l,qu a = true∧pA a)->∀ (n:Nat) (t:Ty) (r:Rd) (e:List UInt8),endQ e->r.s = argY l ++ e->r.bad = false->(∀ a∈l,r.lv + dpY a≤200)->3 * r.s.length + 1≤n->qdd n t r = (.mk t.con t.var (t.args ++ reYs l),⟨e,r.lv,false⟩)
 | [], _, n, t, r, e, he, hr, hb, _, hn => by
   obtain ⟨n,rfl⟩:∃ m,n = m + 1:=⟨n - 1,by omega⟩
   have hre:r.s = e:=by rw [hr,argY,List.nil_append]
   have hr0:(⟨e,r.lv,false⟩:Rd) = r:=by rw [← hre,← hb]
   have ht:(Ty.mk t.con t.var (t.args ++ reYs [])) = t:=by rw [reYs,List.append_nil];cases t;rfl
   rw [qdd,hr0,ht,if_neg]
   rintro ⟨_,q2,q3⟩
   rw [hre] at q2 q3
   rcases he with he | ⟨f,_,rfl⟩
   ·cases e with
    | nil=>rw [qkc] at q3;cases q3
    | cons c e=>rw [qdp,show c = 41 from he] at q3;simp at q3
   ·rw [qkd] at q2;cases q2
 | a :: l, h, n, t, r, e, he, hr, hb, hl, hn => by
   obtain ⟨n,rfl⟩:∃ m,n = m + 1:=⟨n - 1,by omega⟩
   obtain ⟨hsa,hpa⟩:=h a (by simp)
   obtain ⟨c,s,k1,k2⟩:=qje hsa
   have hr2:r.s = 32 :: (qf2 a ++ (argY l ++ e)):=by rw [hr,qin];simp
   have hcut:(cutR 1 r).s = qf2 a ++ (argY l ++ e):=by rw [cutR,hr2];rfl
   have hea:endU (argY l ++ e):=qgv (qjr he)
   have ha:=hpa.1 n (cutR 1 r) _ hea hcut hb (hl a (by simp)) (by rw [qcb];rw [hr2] at hn ⊢;simp at hn ⊢;omega)
   rw [qdd,if_pos ⟨hb,by rw [hr2,k1,List.cons_append,qqt k2],by rw [hr2,qdp];simp⟩,ha]
   show qdd n _ (⟨argY l ++ e,r.lv,false⟩:Rd) = _
   rw [qva l (fun x hx=>h x (by simp [hx])) n _ ⟨argY l ++ e,r.lv,false⟩ e he rfl rfl (fun x hx=>hl x (by simp [hx])) (by rw [hr2] at hn;simp at hn ⊢;omega)]
   simp [reYs,Ty.con,Ty.var,Ty.args]
theorem qoq:∀ (l:List Ty),(∀ a∈l,qu a = true∧pA a)->∀ (n:Nat) (t:Ty) (s e:List UInt8) (d:Int),endQ e->s = argY l ++ e->(∀ a∈l,dpY a + 1≤d)->3 * s.length + 1≤n->qc3 n (t,s,true) d = (.mk t.con t.var (t.args ++ reYs l),e,true)
 | [], _, n, t, s, e, d, he, hr, _, hn => by
   obtain ⟨n,rfl⟩:∃ m,n = m + 1:=⟨n - 1,by omega⟩
   have hre:s = e:=by rw [hr,argY,List.nil_append]
   subst hre
   have ht:(Ty.mk t.con t.var (t.args ++ reYs [])) = t:=by rw [reYs,List.append_nil];cases t;rfl
   rw [qc3,ht,if_neg]
   rintro ⟨_,q2⟩
   dsimp only at q2
   simp only [goOn,Bool.and_eq_true,decide_eq_true_eq,Bool.not_eq_true',decide_eq_false_iff_not] at q2
   rcases he with he | ⟨f,_,rfl⟩
   ·cases s with
    | nil=>simp at q2
    | cons c e=>rw [show c = 41 from he] at q2;exact absurd q2.2.1 (by simp)
   ·exact q2.2.2 (by simp [arrS])
 | a :: l, h, n, t, s, e, d, he, hr, hl, hn => by
   obtain ⟨n,rfl⟩:∃ m,n = m + 1:=⟨n - 1,by omega⟩
   obtain ⟨hsa,hpa⟩:=h a (by simp)
   obtain ⟨c,u,k1,k2⟩:=qje hsa
   have hr2:s = 32 :: (qf2 a ++ (argY l ++ e)):=by rw [hr,qin];simp
   have hea:endU (argY l ++ e):=qgv (qjr he)
   have hg:goOn s = true:=by
    rw [hr2,k1]
    simp only [goOn,Bool.and_eq_true,decide_eq_true_eq,Bool.not_eq_true',decide_eq_false_iff_not]
    exact ⟨by simp,rfl,k2⟩
   have ha:=hpa.2 n (s.drop 1) _ d hea (by rw [hr2];rfl) (hl a (by simp)) (by rw [List.length_drop];rw [hr2] at hn ⊢;simp at hn ⊢;omega)
   rw [qc3,if_pos ⟨rfl,hg⟩,ha,addG]
   rw [qoq l (fun x hx=>h x (by simp [hx])) n _ (argY l ++ e) e d he rfl (fun x hx=>hl x (by simp [hx])) (by rw [hr2] at hn;simp at hn ⊢;omega)]
   simp [reYs,Ty.con,Ty.var,Ty.args]
theorem qti {c:List UInt8} (h:c≠[]) (hc:c.getD 0 0 = 33∨65≤(c.getD 0 0).toNat∧(c.getD 0 0).toNat≤90):qbr c = .mk c 0 []:=by
 have h1:(c.getD 0 0).toNat < 97:=by
  rcases hc with q | q
  ·rw [q];decide
  ·omega
 have h2:numW c = -1:=by rw [numW,if_neg h,if_pos (by omega)]
 have h3:pfx [63] c = false:=by
  cases c with
  | nil=>exact absurd rfl h
  | cons x r =>
    rw [qdp,decide_eq_false]
    intro q
    subst q
    rcases hc with q | q
    ·exact absurd q (by show ¬ ((63:UInt8) = 33);decide)
    ·have:65≤(63:UInt8).toNat:=q.1
     exact absurd this (by decide)
 rw [qbr,h2,if_neg (by omega),h3,if_neg (by simp)]
theorem qxb {t:Ty} (hs:qu t = true) (hn:¬ t.con = arrW) (ha:t.args≠[]):qbr (qbn t) = .mk t.con 0 []:=by
 have hm:=qep hs
 rcases qg3 hm hn with ⟨h1,_,_⟩ | ⟨h1,_,_⟩ | ⟨h1,h2,h3,h4,h5⟩
 ·exfalso
  rw [mayY,mayW,if_pos h1,decide_eq_true_eq] at hm
  exact ha (List.eq_nil_of_length_eq_zero (by omega))
 ·exfalso
  rw [mayY,mayW,if_pos h1,decide_eq_true_eq] at hm
  exact ha (List.eq_nil_of_length_eq_zero (by omega))
 ·rw [h3];exact qti h1 h5
theorem qn6 {t a:Ty} (h:a∈t.args):dpY a + 1≤dpY t:=by rw [qte t];have:=qnj h;omega
theorem qbjf {t:Ty} (hs:qu t = true) (hn:¬ t.con = arrW) (hA:∀ a∈t.args,qu a = true∧pA a):pR t:=by
 have hw:=qgx (qep hs) hn
 have hfin:Ty.mk (qbr (qbn t)).con (qbr (qbn t)).var ((qbr (qbn t)).args ++ reYs t.args) = reY t:=by
  by_cases ha:t.args = []
  ·rw [qnl hn ha,ha,reYs,List.append_nil]
   cases qbr (qbn t);rfl
  ·rw [q39 hn ha,qxb hs hn ha];simp [Ty.con,Ty.var,Ty.args]
 refine ⟨fun n r e he hr hb hl hf=>?_,fun n s e d he hr hl hf=>?_⟩
 ·obtain ⟨n,rfl⟩:∃ m,n = m + 1:=⟨n - 1,by omega⟩
  rw [qc7 hn,List.append_assoc] at hr
  have hea:endU (argY t.args ++ e):=qgv (qjr he)
  rw [qlm hw hea hr hb]
  have:=qva t.args hA (n + 1) (qbr (qbn t)) ⟨argY t.args ++ e,r.lv,false⟩ e he rfl rfl (fun a ha=>by have:=qn6 ha;dsimp only;omega) (by rw [hr] at hf;simp at hf ⊢;omega)
  rw [this,hfin]
 ·obtain ⟨n,rfl⟩:∃ m,n = m + 1:=⟨n - 1,by omega⟩
  rw [qc7 hn,List.append_assoc] at hr
  have hea:endU (argY t.args ++ e):=qgv (qjr he)
  have h1:=qeq t
  rw [qji hw hea hr (by omega)]
  have:=qoq t.args hA (n + 1) (qbr (qbn t)) (argY t.args ++ e) e d he rfl (fun a ha=>by have:=qn6 ha;omega) (by rw [hr] at hf;simp at hf ⊢;omega)
  rw [this,hfin]
theorem qz7 {t:Ty} (hs:qu t = true):txtY t≠[]:=by
 by_cases h:t.con = arrW
 ·obtain ⟨a,b,h2,_,_⟩:=qdo hs h
  rw [qc9 h h2];simp
 ·obtain ⟨c,s,e,_⟩:=qvo hs h
  rw [e];simp
theorem qbfg {t:Ty} (hR:pR t):pT t:=by
 refine ⟨fun n r e he hr hb hl hf=>?_,fun n s e d he hr hl hf=>?_⟩
 ·obtain ⟨n,rfl⟩:∃ m,n = m + 2:=⟨n - 2,by omega⟩
  have hlv:¬ (r.bad = true∨200 < r.lv + 1):=by
   have:=qeq t
   rw [hb];intro q;rcases q with q | q
   ·cases q
   ·omega
  have h1:=hR.1 (n + 1) (lvR (r.lv + 1) r) e (.inl he) hr hb (by show r.lv + 1 + _≤_;omega) (by show 3 * r.s.length + 1≤_;omega)
  rw [qch,if_neg hlv,h1,qhv,if_neg]
  ·show (reY t,(⟨e,r.lv + 1 - 1,false⟩:Rd)) = _
   rw [Int.add_sub_cancel]
  ·rintro ⟨_,q⟩
   dsimp only at q
   cases e with
   | nil=>rw [arrS,qkc] at q;cases q
   | cons c e=>rw [show c = 41 from he,qii (by decide)] at q;cases q
 ·obtain ⟨n,rfl⟩:∃ m,n = m + 2:=⟨n - 2,by omega⟩
  have h0:=qeq t
  have h1:=hR.2 (n + 1) s e d (.inl he) hr hl (by omega)
  rw [typG,if_neg (by omega),h1,qik,if_neg]
  rintro ⟨_,_,q⟩
  dsimp only at q
  cases e with
  | nil=>rw [arrS,qkc] at q;cases q
  | cons c e=>rw [show c = 41 from he,qii (by decide)] at q;cases q
theorem qbgl {t a b:Ty} (h1:t.con = arrW) (h2:t.args = [a,b]) (ha:qu a = true) (hb:qu b = true) (hA:pA a) (hR:¬ a.con = arrW->pR a) (hB:pT b):pT t:=by
 have hda:=qn6 (t:=t) (a:=a) (by simp [h2])
 have hdb:=qn6 (t:=t) (a:=b) (by simp [h2])
 have hre:reY t = .mk arrW 0 [reY a,reY b]:=by rw [q6d h1,h2,reYs,reYs,reYs]
 have hbne:=qz7 hb
 refine ⟨fun n r e he hr hbd hl hf=>?_,fun n s e d he hr hl hf=>?_⟩
 ·obtain ⟨n,rfl⟩:∃ m,n = m + 2:=⟨n - 2,by omega⟩
  have hlv:¬ (r.bad = true∨200 < r.lv + 1):=by
   rw [hbd];intro q;rcases q with q | q
   ·cases q
   ·omega
  have hq:endQ (arrS ++ (txtY b ++ e)):=.inr ⟨_,by intro q;exact hbne (List.append_eq_nil_iff.1 q).1,rfl⟩
  have hlen:3 * (txtY b ++ e).length + 2 + 3≤3 * r.s.length:=by
   rw [hr,qc9 h1 h2];simp;omega
  have hm:qdd (n + 1) (qbp (n + 1) (lvR (r.lv + 1) r)).1 (qbp (n + 1) (lvR (r.lv + 1) r)).2 = (reY a,⟨arrS ++ (txtY b ++ e),r.lv + 1,false⟩):=by
   by_cases hca:a.con = arrW
   ·have hr2:r.s = qf2 a ++ (arrS ++ (txtY b ++ e)):=by
     have hna:a.args≠[]:=fun q=>qfm ha q hca
     rw [hr,quu h1 h2 hca,qeb hna];simp [arrU,arrS]
    have:=hA.1 (n + 1) (lvR (r.lv + 1) r) _ (qsb (qjr hq)) hr2 hbd (by show r.lv + 1 + _≤_;omega) (by show 3 * r.s.length + 1≤_;omega)
    rw [this,qdd,if_neg]
    ·rfl
    ·rintro ⟨_,q,_⟩
     dsimp only at q
     rw [qkd] at q;cases q
   ·have hr2:r.s = txtY a ++ (arrS ++ (txtY b ++ e)):=by rw [hr,quk h1 h2 hca];simp [arrU,arrS]
    exact (hR hca).1 (n + 1) (lvR (r.lv + 1) r) _ hq hr2 hbd (by show r.lv + 1 + _≤_;omega) (by show 3 * r.s.length + 1≤_;omega)
  rw [qch,if_neg hlv,hm,qhv,if_pos ⟨rfl,qkd _⟩]
  have hc:cutR 4 (⟨arrS ++ (txtY b ++ e),r.lv + 1,false⟩:Rd) = ⟨txtY b ++ e,r.lv + 1,false⟩:=by simp [cutR,arrS]
  dsimp only
  rw [hc,hB.1 n ⟨txtY b ++ e,r.lv + 1,false⟩ e he rfl rfl (by dsimp only;omega) (by dsimp only;omega),hre]
  show ((_:Ty),(⟨e,r.lv + 1 - 1,false⟩:Rd)) = _
  rw [Int.add_sub_cancel]
 ·obtain ⟨n,rfl⟩:∃ m,n = m + 2:=⟨n - 2,by omega⟩
  have hq:endQ (arrS ++ (txtY b ++ e)):=.inr ⟨_,by intro q;exact hbne (List.append_eq_nil_iff.1 q).1,rfl⟩
  have hlen:3 * (txtY b ++ e).length + 2 + 3≤3 * s.length:=by
   rw [hr,qc9 h1 h2];simp;omega
  have hm:qc3 (n + 1) (qca (n + 1) s d) d = (reY a,arrS ++ (txtY b ++ e),true):=by
   by_cases hca:a.con = arrW
   ·have hr2:s = qf2 a ++ (arrS ++ (txtY b ++ e)):=by
     have hna:a.args≠[]:=fun q=>qfm ha q hca
     rw [hr,quu h1 h2 hca,qeb hna];simp [arrU,arrS]
    have:=hA.2 (n + 1) s _ d (qsb (qjr hq)) hr2 (by omega) (by omega)
    rw [this,qc3,if_neg]
    rintro ⟨_,q⟩
    dsimp only at q
    simp only [goOn,Bool.and_eq_true,Bool.not_eq_true',decide_eq_false_iff_not] at q
    exact q.2.2 (by simp [arrS])
   ·have hr2:s = txtY a ++ (arrS ++ (txtY b ++ e)):=by rw [hr,quk h1 h2 hca];simp [arrU,arrS]
    exact (hR hca).2 (n + 1) s _ d hq hr2 (by omega) (by omega)
  have hl4:4 < (arrS ++ (txtY b ++ e)).length:=by
   have:0 < (txtY b).length:=List.length_pos_iff.2 hbne
   simp [arrS];omega
  have hc:(arrS ++ (txtY b ++ e)).drop 4 = txtY b ++ e:=by simp [arrS]
  have hdp:=qeq a
  rw [typG,if_neg (by omega),hm,qik,if_pos ⟨rfl,hl4,qkd _⟩]
  dsimp only
  rw [hc,hB.2 n (txtY b ++ e) e (d - 1) he rfl (by omega) (by omega),hre]
theorem qbc0:∀ t:Ty,qu t = true->pT t∧pA t∧(¬ t.con = arrW->pR t):=Ty.ind fun t ih hs=>by
 have hih:∀ a∈t.args,qu a = true∧pA a:=fun a ha=>⟨qea hs ha,(ih a ha (qea hs ha)).2.1⟩
 have hR:¬ t.con = arrW->pR t:=fun hn=>qbjf hs hn hih
 have hT:pT t:=by
  by_cases h:t.con = arrW
  ·obtain ⟨a,b,h2,ha,hb⟩:=qdo hs h
   have ia:=ih a (by simp [h2]) ha
   have ib:=ih b (by simp [h2]) hb
   exact qbgl h h2 ha hb ia.2.1 ia.2.2 ib.1
  ·exact qbfg (hR h)
 exact ⟨hT,qbi9 hs hT,hR⟩
def qcs (s:List UInt8):P3:=typG (3 * s.length + 2) s 300
def refY (s:List UInt8):Ty×Int:=if (qcs s).2.2 = true∧(qcs s).2.1 = []∧qbd (qcs s).1 = true∧txtY (qcs s).1 = s then ((qcs s).1,0) else (Y0,5)
theorem qpm {t:Ty} (h:qbd t = true):dpY t≤100:=by
 rw [qbd,Bool.and_eq_true,Bool.and_eq_true,decide_eq_true_eq,decide_eq_true_eq] at h;exact h.2.1
theorem qrb {t:Ty} (h:qbd t = true):qbt (txtY t) = (reY t,⟨[],0,false⟩):=by
 have hd:=qpm h
 exact (qbc0 t (qbf h)).1.1 _ ⟨txtY t,0,false⟩ [] trivial (by simp) rfl (by dsimp only;omega) (Nat.le_refl _)
theorem qsu {t:Ty} (h:qbd t = true):qcs (txtY t) = (reY t,[],true):=by
 have hd:=qpm h
 exact (qbc0 t (qbf h)).1.2 _ (txtY t) [] 300 trivial (by simp) (by omega) (Nat.le_refl _)
theorem qr4:(qbt []).2.bad = true:=rfl
theorem q5i (s:List UInt8):qd4 s = refY s:=by
 by_cases hx:∃ t,qbd t = true∧txtY t = s
 ·obtain ⟨t,ht,rfl⟩:=hx
  have hne:=qz7 (qbf ht)
  unfold qd4 refY
  rw [qrb ht,qsu ht]
  dsimp only
  rw [if_neg (by simp),if_pos rfl]
  unfold qbm
  by_cases hl:qbd (reY t) = true
  ·rw [if_pos hl]
   by_cases he:txtY (reY t) = txtY t
   ·rw [if_pos he,if_pos ⟨rfl,rfl,hl,he⟩]
   ·rw [if_neg he,if_neg (fun q=>he q.2.2.2)]
  ·rw [if_neg hl,if_neg (fun q=>hne q.symm),if_neg (fun q=>hl q.2.2.1)]
 ·have h1:refY s = (Y0,5):=by
   unfold refY
   rw [if_neg (fun q=>hx ⟨_,q.2.2.1,q.2.2.2⟩)]
  rw [h1,qd4]
  split
  ·rfl
  ·rename_i hb
   split
   ·split
    ·rename_i he
     exfalso
     unfold qbm at he
     split at he
     ·rename_i hl;exact hx ⟨_,hl,he⟩
     ·subst he;exact hb qr4
    ·rfl
   ·rfl

/-! a term's text is read as that term -/
end Go.Proofs.Ytlahgbhhejkgbaa
