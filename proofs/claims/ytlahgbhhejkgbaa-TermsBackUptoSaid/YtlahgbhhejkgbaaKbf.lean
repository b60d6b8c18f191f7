/- A text of this proof. -/
import Derived.Test.YtlahgbhhejkgbaaKba
set_option linter.unusedVariables false
set_option linter.unusedSimpArgs false

/- texts of terms: unlike terms have unlike texts -/
namespace Go.Proofs.Ytlahgbhhejkgbaa
open Go Go.RowKit Go.V

/-! digits -/
def valN (s:List UInt8):Nat:=s.foldl (fun a c=>10 * a + (c.toNat - 48)) 0
theorem qlm:∀ (n u:Nat),u≤n->valN (digN u) = u:=by
 intro n
 induction n with
 | zero => intro u hu; have : u = 0 := by omega
           subst this;rw [qca (by omega)];decide
 | succ n ih =>
   intro u hu
   by_cases h:u < 10
   ·rw [qca h]
    have:(UInt8.ofNat (48 + u)).toNat = 48 + u:=by rw [UInt8.toNat_ofNat'];omega
    simp only [valN,List.foldl_cons,List.foldl_nil,this];omega
   ·rw [qe6 h]
    have h1:=ih (u / 10) (by omega)
    have:(UInt8.ofNat (48 + u % 10)).toNat = 48 + u % 10:=by rw [UInt8.toNat_ofNat'];omega
    simp only [valN,List.foldl_append,List.foldl_cons,List.foldl_nil,this] at h1 ⊢
    rw [h1];omega
theorem qoi {u v:Nat} (h:digN u = digN v):u = v:=by rw [← qlm u u (Nat.le_refl _),h,qlm v v (Nat.le_refl _)]
def qq4 (c:UInt8):Bool:=decide (48≤c.toNat) && decide (c.toNat≤57)
theorem qnu:∀ (n u:Nat),u≤n->(digN u).all qq4 = true:=by
 intro n
 induction n with
 | zero => intro u hu; have : u = 0 := by omega
           subst this;rw [qca (by omega)];decide
 | succ n ih =>
   intro u hu
   by_cases h:u < 10
   ·rw [qca h]
    have:(UInt8.ofNat (48 + u)).toNat = 48 + u:=by rw [UInt8.toNat_ofNat'];omega
    simp only [List.all_cons,List.all_nil,qq4,this,Bool.and_true,Bool.and_eq_true,decide_eq_true_eq];omega
   ·rw [qe6 h,List.all_append,ih (u / 10) (by omega)]
    have:(UInt8.ofNat (48 + u % 10)).toNat = 48 + u % 10:=by rw [UInt8.toNat_ofNat'];omega
    simp only [List.all_cons,List.all_nil,qq4,this,Bool.and_true,Bool.true_and,Bool.and_eq_true,decide_eq_true_eq];omega
theorem qwr {a b:Int} (ha:0≤a) (hb:0≤b) (h:digI a = digI b):a = b:=by
 rw [digI,if_neg (by omega),digI,if_neg (by omega)] at h
 have:=qoi h
 omega
theorem qvz {a b:Int} (ha:0≤a) (hb:0≤b) (h:ltrI a = ltrI b):a = b:=by
 have ea:ltrI a = if a < 26 then [UInt8.ofNat (97 + a.toNat)] else UInt8.ofNat (97 + a.toNat % 26) :: digN (a.toNat / 26):=by rw [ltrI,if_neg (by omega)]
 have eb:ltrI b = if b < 26 then [UInt8.ofNat (97 + b.toNat)] else UInt8.ofNat (97 + b.toNat % 26) :: digN (b.toNat / 26):=by rw [ltrI,if_neg (by omega)]
 rw [ea,eb] at h
 have key:∀ x y:Nat,x < 26->y < 26->UInt8.ofNat (97 + x) = UInt8.ofNat (97 + y)->x = y:=fun x y hx hy e=>by
  have:=congrArg UInt8.toNat e
  rw [UInt8.toNat_ofNat',UInt8.toNat_ofNat'] at this
  omega
 split at h<;>split at h
 ·have:=key _ _ (by omega) (by omega) (List.cons.inj h).1
  omega
 ·have:=congrArg List.length h
  have h2:=qgt (b.toNat / 26)
  simp only [List.length_cons,List.length_nil] at this;omega
 ·have:=congrArg List.length h
  have h2:=qgt (a.toNat / 26)
  simp only [List.length_cons,List.length_nil] at this;omega
 ·have h1:=key _ _ (by omega) (by omega) (List.cons.inj h).1
  have h2:=qoi (List.cons.inj h).2
  omega

/-! names -/
def okCh (c:UInt8):Bool:=decide (c≠32) && (decide (c≠40) && decide (c≠41))
def okNm (s:List UInt8):Prop:=s≠[]∧s.all okCh = true∧s.getD 0 0≠45
theorem qc1 {c d:UInt8} (h:c.toNat≠d.toNat):c≠d:=fun e=>h (by rw [e])
theorem qnc {c:UInt8} (h:42≤c.toNat∨(33≤c.toNat∧c.toNat≤39)):okCh c = true:=by
 have h1:c≠32:=qc1 (by rw [show (32:UInt8).toNat = 32 from rfl];omega)
 have h2:c≠40:=qc1 (by rw [show (40:UInt8).toNat = 40 from rfl];omega)
 have h3:c≠41:=qc1 (by rw [show (41:UInt8).toNat = 41 from rfl];omega)
 simp [okCh,h1,h2,h3]
theorem qoj {s:List UInt8} (h:s.all qq4 = true):s.all okCh = true:=by
 rw [List.all_eq_true] at h ⊢
 intro c hc
 have:=h c hc
 simp only [qq4,Bool.and_eq_true,decide_eq_true_eq] at this
 exact qnc (by omega)
theorem qln (a:Int):(digI a).all okCh = true:=by
 have:=qoj (qnu _ a.natAbs (Nat.le_refl _))
 rw [digI];split
 ·rw [List.all_cons,this];decide
 ·exact this
theorem qzm {s:List UInt8} (h:onsW s = true):s.all okCh = true:=by
 rw [onsW,List.all_eq_true] at h
 rw [List.all_eq_true]
 intro c hc
 have:=h c hc
 simp only [onW,qo7,qjn,qb9,Bool.or_eq_true,Bool.and_eq_true,decide_eq_true_eq] at this
 exact qnc (by omega)
theorem qdo {a:Int} (ha:0≤a):∃ c r,ltrI a = c :: r∧97≤c.toNat∧c.toNat≤122∧r.all okCh = true:=by
 rw [ltrI,if_neg (by omega)]
 split
 ·refine ⟨_,[],rfl,?_,?_,rfl⟩<;>(rw [UInt8.toNat_ofNat'];omega)
 ·refine ⟨_,_,rfl,?_,?_,qoj (qnu _ _ (Nat.le_refl _))⟩<;>(rw [UInt8.toNat_ofNat'];omega)
theorem qbw {t:Ty} (h:mayY t = true) (hn:¬ t.con = arrW) :
 (t.con = []∧0≤t.var∧qbo t = ltrI t.var)∨(t.con = []∧t.var < 0∧qbo t = 63 :: digI (-1 - t.var))∨(t.con≠[]∧t.var = 0∧qbo t = t.con∧t.con.all okCh = true∧(t.con.getD 0 0 = 33∨65≤(t.con.getD 0 0).toNat∧(t.con.getD 0 0).toNat≤90)):=by
 rw [mayY,mayW] at h
 by_cases hc:t.con = []
 ·by_cases hv:0≤t.var
  ·exact .inl ⟨hc,hv,by rw [qbo,if_pos hc,if_pos hv]⟩
  ·exact .inr (.inl ⟨hc,by omega,by rw [qbo,if_pos hc,if_neg hv]⟩)
 ·rw [if_neg hc,if_neg hn] at h
  refine .inr (.inr ⟨hc,?_⟩)
  by_cases hf:fixW t.con = true
  ·rw [if_pos hf,Bool.and_eq_true,decide_eq_true_eq] at h
   simp only [fixW,Bool.and_eq_true,decide_eq_true_eq] at hf
   obtain ⟨h1,h2,h3⟩:=hf
   have h0:∃ r,t.con = 33 :: r:=by
    cases hh:t.con with
    | nil=>exact absurd hh hc
    | cons c r=>rw [hh] at h1;simp [pfx] at h1;exact ⟨r,by rw [← h1]⟩
   obtain ⟨r,hr⟩:=h0
   refine ⟨h.1,by rw [qbo,if_neg hc],?_,.inl (by rw [hr];rfl)⟩
   rw [hr] at h3 ⊢
   rw [List.drop_succ_cons,List.drop_zero] at h3
   rw [List.all_cons,← h3,qln];decide
  ·rw [if_neg hf,Bool.and_eq_true,decide_eq_true_eq] at h
   obtain ⟨h1,h2⟩:=h
   simp only [conW,Bool.and_eq_true,qjn,decide_eq_true_eq] at h2
   refine ⟨h1,by rw [qbo,if_neg hc],qzm h2.2,.inr (by omega)⟩
theorem qcd {t:Ty} (h:mayY t = true) (hn:¬ t.con = arrW):okNm (qbo t):=by
 rcases qbw h hn with ⟨h1,h2,h3⟩ | ⟨h1,h2,h3⟩ | ⟨h1,h2,h3,h4,h5⟩
 ·obtain ⟨c,r,e,h4,h5,h6⟩:=qdo h2
  rw [h3,e]
  refine ⟨by simp,by rw [List.all_cons,h6,qnc (by omega)];rfl,qc1 (show c.toNat≠45 by omega)⟩
 ·rw [h3]
  exact ⟨by simp,by rw [List.all_cons,qln];decide,by show (63:UInt8)≠45;decide⟩
 ·rw [h3]
  refine ⟨h1,h4,?_⟩
  rcases h5 with h5 | h5
  ·rw [h5];decide
  ·exact qc1 (show _≠45 by omega)
theorem qlh {t u:Ty} (h:mayY t = true) (hn:¬ t.con = arrW) (h':mayY u = true) (hn':¬ u.con = arrW) (e:qbo t = qbo u):t.con = u.con∧t.var = u.var:=by
 rcases qbw h hn with ⟨h1,h2,h3⟩ | ⟨h1,h2,h3⟩ | ⟨h1,h2,h3,h4,h5⟩<;>rcases qbw h' hn' with ⟨g1,g2,g3⟩ | ⟨g1,g2,g3⟩ | ⟨g1,g2,g3,g4,g5⟩
 ·rw [h3,g3] at e
  exact ⟨h1.trans g1.symm,qvz h2 g2 e⟩
 ·obtain ⟨c,r,e1,h4,h5,h6⟩:=qdo h2
  rw [h3,g3,e1] at e
  have:=(List.cons.inj e).1
  subst this
  exact absurd h4 (by decide)
 ·obtain ⟨c,r,e1,h4,h5,h6⟩:=qdo h2
  rw [h3,g3,e1] at e
  rw [← e] at g5
  rcases g5 with g5 | g5
  ·have g5:c = 33:=g5
   subst g5;exact absurd h4 (by decide)
  ·have g5:65≤c.toNat∧c.toNat≤90:=g5
   omega
 ·obtain ⟨c,r,e1,h4,h5,h6⟩:=qdo g2
  rw [h3,g3,e1] at e
  have:=(List.cons.inj e).1
  subst this
  exact absurd h4 (by decide)
 ·rw [h3,g3] at e
  have:=qwr (by omega) (by omega) (List.cons.inj e).2
  exact ⟨h1.trans g1.symm,by omega⟩
 ·rw [h3,g3] at e
  rw [← e,show (63 :: digI (-1 - t.var)).getD 0 0 = 63 from rfl] at g5
  exact absurd g5 (by decide)
 ·obtain ⟨c,r,e1,q4,q5,q6⟩:=qdo g2
  rw [h3,g3,e1] at e
  rw [e] at h5
  rcases h5 with g5 | g5
  ·have g5:c = 33:=g5
   subst g5;exact absurd q4 (by decide)
  ·have g5:65≤c.toNat∧c.toNat≤90:=g5
   omega
 ·rw [h3,g3] at e
  rw [e,show (63 :: digI (-1 - u.var)).getD 0 0 = 63 from rfl] at h5
  exact absurd h5 (by decide)
 ·rw [h3,g3] at e
  exact ⟨e,h2.trans g2.symm⟩

/-! rests -/
def endU:List UInt8->Prop
 | []=>True
 | c :: _=>c = 32∨c = 41
def endR:List UInt8->Prop
 | []=>True
 | c :: r=>c = 41∨(c = 32∧r.getD 0 0 = 45)
def endT:List UInt8->Prop
 | []=>True
 | c :: _=>c = 41
theorem qls {r:List UInt8} (h:endT r):endR r:=by cases r with | nil=>trivial | cons c r=>exact .inl h
theorem qrs {r:List UInt8} (h:endR r):endU r:=by
 cases r with
 | nil=>trivial
 | cons c r => rcases h with h | h
               ·exact .inr h
               ·exact .inl h.1
theorem qgc:∀ {s s' r r':List UInt8},s.all okCh = true->s'.all okCh = true->endU r->endU r'->s ++ r = s' ++ r'->s = s'∧r = r'
 | [],[],r,r',_,_,_,_,e=>⟨rfl,e⟩
 | [], c :: s', r, r', _, h', hr, _, e => by
   exfalso
   cases r with
   | nil=>simp at e
   | cons d r =>
     have e1:d = c:=(List.cons.inj e).1
     subst e1
     rw [List.all_cons,Bool.and_eq_true] at h'
     rcases hr with rfl | rfl
     ·exact absurd h'.1 (by decide)
     ·exact absurd h'.1 (by decide)
 | c :: s, [], r, r', h, _, _, hr, e => by
   exfalso
   cases r' with
   | nil=>simp at e
   | cons d r' =>
     have e1:c = d:=(List.cons.inj e).1
     subst e1
     rw [List.all_cons,Bool.and_eq_true] at h
     rcases hr with rfl | rfl
     ·exact absurd h.1 (by decide)
     ·exact absurd h.1 (by decide)
 | c :: s, d :: s', r, r', h, h', hr, hr', e => by
   rw [List.all_cons,Bool.and_eq_true] at h h'
   have e1:=List.cons.inj e
   obtain ⟨q1,q2⟩:=qgc h.2 h'.2 hr hr' e1.2
   exact ⟨by rw [e1.1,q1],q2⟩
theorem qem {s:List UInt8} (h:okNm s):∃ c r,s = c :: r∧c≠32∧c≠40∧c≠41∧c≠45:=by
 obtain ⟨h1,h2,h3⟩:=h
 cases s with
 | nil=>exact absurd rfl h1
 | cons c r =>
   rw [List.all_cons,Bool.and_eq_true] at h2
   have:=h2.1
   simp only [okCh,Bool.and_eq_true,decide_eq_true_eq] at this
   exact ⟨c,r,rfl,this.1,this.2.1,this.2.2,h3⟩

def injT (t:Ty):Prop:=∀ u r r',qn u = true->endT r->endT r'->txtY t ++ r = txtY u ++ r'->t = u∧r = r'
def injR (t:Ty):Prop:=¬ t.con = arrW->∀ u r r',qn u = true->¬ u.con = arrW->endR r->endR r'->txtY t ++ r = txtY u ++ r'->t = u∧r = r'
def qea (t:Ty):List UInt8:=parW (decide (t.args≠[])) (txtY t)
theorem qm {t:Ty} (h:qn t = true):mayY t = true:=by rw [qh4,Bool.and_eq_true] at h;exact h.2
theorem qbu {t:Ty} (h:qn t = true) (h1:t.args = []):¬ t.con = arrW:=fun hc=>by
 obtain ⟨a,b,h2,_⟩:=qcj h hc
 rw [h1] at h2;cases h2
theorem qct {t:Ty} (h:qn t = true) (h1:t.args = []):qea t = qbo t:=by
 rw [qea,h1,parW,if_neg (by simp),qc6 (qbu h h1),h1];simp [argY]
theorem qb7 {t:Ty} (h1:t.args≠[]):qea t = 40 :: (txtY t ++ [41]):=by rw [qea,parW,if_pos (by simp [h1])]
theorem qjc {t u:Ty} (h1:t.con = u.con) (h2:t.var = u.var) (h3:t.args = u.args):t = u:=ty_eq.2 ⟨⟨h1,h2⟩,h3⟩
theorem qu0 {t u:Ty} {r r':List UInt8} (hI:injT t) (hs:qn t = true) (hu:qn u = true) (hr:endU r) (hr':endU r') (e:qea t ++ r = qea u ++ r'):t = u∧r = r':=by
 by_cases h1:t.args = []<;>by_cases h2:u.args = []
 ·rw [qct hs h1,qct hu h2] at e
  have k1:=qcd (qm hs) (qbu hs h1)
  have k2:=qcd (qm hu) (qbu hu h2)
  obtain ⟨q1,q2⟩:=qgc k1.2.1 k2.2.1 hr hr' e
  obtain ⟨q3,q4⟩:=qlh (qm hs) (qbu hs h1) (qm hu) (qbu hu h2) q1
  exact ⟨qjc q3 q4 (h1.trans h2.symm),q2⟩
 ·exfalso
  rw [qct hs h1,qb7 h2] at e
  obtain ⟨c,s,k1,k2,k3,k4,k5⟩:=qem (qcd (qm hs) (qbu hs h1))
  rw [k1] at e
  exact k3 (List.cons.inj e).1
 ·exfalso
  rw [qb7 h1,qct hu h2] at e
  obtain ⟨c,s,k1,k2,k3,k4,k5⟩:=qem (qcd (qm hu) (qbu hu h2))
  rw [k1] at e
  exact k3 (List.cons.inj e).1.symm
 ·rw [qb7 h1,qb7 h2] at e
  have e1:txtY t ++ [41] ++ r = txtY u ++ [41] ++ r':=(List.cons.inj e).2
  rw [List.append_assoc,List.append_assoc] at e1
  obtain ⟨q1,q2⟩:=hI u _ _ hu (show endT ([41] ++ r) from rfl) (show endT ([41] ++ r') from rfl) e1
  exact ⟨q1,(List.cons.inj q2).2⟩
theorem qdp (a:Ty) (l:List Ty):argY (a :: l) = 32 :: (qea a ++ argY l):=by rw [argY];rfl
theorem qf2 {t:Ty} (hs:qn t = true):∃ c s,qea t = c :: s∧c≠45:=by
 by_cases h1:t.args = []
 ·rw [qct hs h1]
  obtain ⟨c,s,k1,k2,k3,k4,k5⟩:=qem (qcd (qm hs) (qbu hs h1))
  exact ⟨c,s,k1,k5⟩
 ·rw [qb7 h1];exact ⟨40,_,rfl,by decide⟩
theorem qc5 {l:List Ty} {r:List UInt8} (hr:endR r):endU (argY l ++ r):=by
 cases l with
 | nil=>exact qrs hr
 | cons a l=>rw [qdp];exact .inl rfl
theorem qyk {a:Ty} {l:List Ty} {r r':List UInt8} (hs:qn a = true) (hr:endR r) (e:r = argY (a :: l) ++ r'):False:=by
 obtain ⟨c,s,k1,k2⟩:=qf2 hs
 rw [qdp,k1] at e
 subst e
 rcases hr with hr | hr
 ·exact absurd hr (by decide)
 ·exact k2 hr.2
theorem qow:∀ {l l':List Ty} {r r':List UInt8},(∀ a∈l,injT a)->(∀ a∈l,qn a = true)->(∀ a∈l',qn a = true)->endR r->endR r'->argY l ++ r = argY l' ++ r'->l = l'∧r = r'
 | [],[],r,r',_,_,_,_,_,e=>⟨rfl,by simpa [argY] using e⟩
 | [],a :: l',r,r',_,_,h',hr,_,e=>(qyk (h' a (by simp)) hr (by simpa [argY] using e)).elim
 | a :: l,[],r,r',_,h,_,_,hr',e=>(qyk (h a (by simp)) hr' (by rw [show argY [] = [] by rw [argY],List.nil_append] at e;exact e.symm)).elim
 | a :: l, b :: l', r, r', hI, h, h', hr, hr', e => by
   rw [qdp,qdp] at e
   have e1:qea a ++ argY l ++ r = qea b ++ argY l' ++ r':=(List.cons.inj e).2
   rw [List.append_assoc,List.append_assoc] at e1
   obtain ⟨q1,q2⟩:=qu0 (hI a (by simp)) (h a (by simp)) (h' b (by simp)) (qc5 hr) (qc5 hr') e1
   obtain ⟨q3,q4⟩:=qow (fun x hx=>hI x (by simp [hx])) (fun x hx=>h x (by simp [hx])) (fun x hx=>h' x (by simp [hx])) hr hr' q2
   exact ⟨by rw [q1,q3],q4⟩
theorem qzv {t:Ty} (hs:qn t = true) (hI:∀ a∈t.args,injT a):injR t:=by
 intro hn u r r' hu hnu hr hr' e
 rw [qc6 hn,qc6 hnu,List.append_assoc,List.append_assoc] at e
 have k1:=qcd (qm hs) hn
 have k2:=qcd (qm hu) hnu
 obtain ⟨q1,q2⟩:=qgc k1.2.1 k2.2.1 (qc5 hr) (qc5 hr') e
 obtain ⟨q3,q4⟩:=qlh (qm hs) hn (qm hu) hnu q1
 obtain ⟨q5,q6⟩:=qow hI (fun a ha=>qce hs ha) (fun a ha=>qce hu ha) hr hr' q2
 exact ⟨qjc q3 q4 q5,q6⟩
def arrU:List UInt8:=[32,45,62,32]
theorem qgx (s:List UInt8):endR (arrU ++ s):=.inr ⟨rfl,rfl⟩
theorem qfs {t:Ty} (hs:qn t = true) (hn:¬ t.con = arrW):∃ c s,txtY t = c :: s∧c≠40:=by
 obtain ⟨c,s,k1,k2,k3,k4,k5⟩:=qem (qcd (qm hs) hn)
 rw [qc6 hn,k1]
 exact ⟨c,_,rfl,k3⟩
theorem qd8 {a b t:Ty} (h:t.con = arrW) (h2:t.args = [a,b]) (ha:a.con = arrW):txtY t = 40 :: (txtY a ++ (41 :: (arrU ++ txtY b))):=by
 rw [qdw h h2,parW,if_pos (by simp [ha])];simp [arrU]
theorem qeh {a b t:Ty} (h:t.con = arrW) (h2:t.args = [a,b]) (ha:¬ a.con = arrW):txtY t = txtY a ++ (arrU ++ txtY b):=by
 rw [qdw h h2,parW,if_neg (by simp [ha])];rfl
theorem qm4 {t:Ty} (h:mayY t = true) (h1:t.con = arrW):t.var = 0:=by
 rw [mayY,mayW,h1,if_neg (by decide),if_pos rfl,Bool.and_eq_true,decide_eq_true_eq] at h
 exact h.1
theorem qld {s r:List UInt8} (h:endT r) (e:arrU ++ s = r):False:=by
 subst e
 exact absurd (show (32:UInt8) = 41 from h) (by decide)
theorem qux:∀ t:Ty,qn t = true->injT t∧injR t:=Ty.ind fun t ih hs=>by
 have hR:injR t:=qzv hs fun a ha=>(ih a ha (qce hs ha)).1
 refine ⟨?_,hR⟩
 intro u r r' hu hr hr' e
 by_cases h1:t.con = arrW
 ·obtain ⟨a,b,h2,ha,hb⟩:=qcj hs h1
  have ia:=ih a (by simp [h2]) ha
  have ib:=ih b (by simp [h2]) hb
  by_cases g1:u.con = arrW
  ·obtain ⟨c,d,g2,hc,hd⟩:=qcj hu g1
   have hfin:a = c->b = d->t = u:=fun e1 e2=>qjc (h1.trans g1.symm) ((qm4 (qm hs) h1).trans (qm4 (qm hu) g1).symm) (by rw [h2,g2,e1,e2])
   by_cases ca:a.con = arrW<;>by_cases cc:c.con = arrW
   ·rw [qd8 h1 h2 ca,qd8 g1 g2 cc] at e
    simp only [List.cons_append,List.append_assoc] at e
    obtain ⟨q1,q2⟩:=ia.1 c _ _ hc (show endT (41 :: _) from rfl) (show endT (41 :: _) from rfl) (List.cons.inj e).2
    obtain ⟨q3,q4⟩:=ib.1 d _ _ hd hr hr' (List.append_cancel_left (List.cons.inj q2).2)
    exact ⟨hfin q1 q3,q4⟩
   ·exfalso
    rw [qd8 h1 h2 ca,qeh g1 g2 cc] at e
    obtain ⟨x,s,k1,k2⟩:=qfs hc cc
    rw [k1] at e
    exact k2 (List.cons.inj e).1.symm
   ·exfalso
    rw [qeh h1 h2 ca,qd8 g1 g2 cc] at e
    obtain ⟨x,s,k1,k2⟩:=qfs ha ca
    rw [k1] at e
    exact k2 (List.cons.inj e).1
   ·rw [qeh h1 h2 ca,qeh g1 g2 cc] at e
    simp only [List.append_assoc] at e
    obtain ⟨q1,q2⟩:=ia.2 ca c _ _ hc cc (qgx _) (qgx _) e
    obtain ⟨q3,q4⟩:=ib.1 d _ _ hd hr hr' (List.append_cancel_left q2)
    exact ⟨hfin q1 q3,q4⟩
  ·exfalso
   by_cases ca:a.con = arrW
   ·rw [qd8 h1 h2 ca] at e
    obtain ⟨x,s,k1,k2⟩:=qfs hu g1
    rw [k1] at e
    exact k2 (List.cons.inj e).1.symm
   ·rw [qeh h1 h2 ca] at e
    simp only [List.append_assoc] at e
    obtain ⟨q1,q2⟩:=ia.2 ca u _ _ hu g1 (qgx _) (qls hr') e
    exact qld hr' q2
 ·by_cases g1:u.con = arrW
  ·exfalso
   obtain ⟨c,d,g2,hc,hd⟩:=qcj hu g1
   by_cases cc:c.con = arrW
   ·rw [qd8 g1 g2 cc] at e
    obtain ⟨x,s,k1,k2⟩:=qfs hs h1
    rw [k1] at e
    exact k2 (List.cons.inj e).1
   ·rw [qeh g1 g2 cc] at e
    simp only [List.append_assoc] at e
    obtain ⟨q1,q2⟩:=hR h1 c _ _ hc cc (qls hr) (qgx _) e
    exact qld hr q2.symm
  ·exact hR h1 u r r' hu g1 (qls hr) (qls hr') e
theorem qvk {t u:Ty} (h:qn t = true) (hu:qn u = true) (e:txtY t = txtY u):t = u :=
 ((qux t h).1 u [] [] hu trivial trivial (by rw [e])).1
end Go.Proofs.Ytlahgbhhejkgbaa
