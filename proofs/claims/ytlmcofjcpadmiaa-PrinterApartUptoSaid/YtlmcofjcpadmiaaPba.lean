/- Texts of this proof, joined. -/
import Derived.Test.YtlmcofjcpadmiaaPay
set_option linter.unusedVariables false
set_option linter.unusedSimpArgs false

/- contexts that are written: their words; they are read as they were -/
namespace Go.Proofs.Ytlmcofjcpadmiaa
open Go Go.RowKit Go.V

def Bal (ts:List T):Prop:=∀ (x:List UInt8) (r:List T) (d:Int),0 < d->qbe x (ts ++ r) d = qbe x r d
def Bal0 (ts:List T):Prop:=Bal ts∧∀ r:List T,qbe [61,62] (ts ++ r) 0 = qbe [61,62] r 0
theorem bal_nil:Bal0 []:=⟨fun x r d _=>rfl,fun r=>rfl⟩
theorem Bal.app {a b:List T} (h:Bal a) (k:Bal b):Bal (a ++ b):=fun x r d hd=>by rw [List.append_assoc,h x _ d hd,k x r d hd]
theorem Bal0.app {a b:List T} (h:Bal0 a) (k:Bal0 b):Bal0 (a ++ b):=⟨h.1.app k.1,fun r=>by rw [List.append_assoc,h.2,k.2]⟩
theorem qh2 {t:T} (h4:t.kind≠4) (h5:t.kind≠5) (l:List (List UInt8)):qc5 t l = false:=by simp [qc5,h4,h5]
theorem qbm {t:T} (h4:t.kind≠4) (h5:t.kind≠5) (l:List UInt8):qba t l = false:=by simp [qba,h4,h5]
theorem qdd {t:T} (h4:t.kind≠4) (h5:t.kind≠5):Bal0 [t]:=by
 refine ⟨fun x r d hd=>?_,fun r=>?_⟩
 ·rw [List.singleton_append,qbe,qh2 h4 h5,qh2 h4 h5,if_neg Bool.false_ne_true,if_neg Bool.false_ne_true,if_pos hd]
 ·rw [List.singleton_append,qbe,qh2 h4 h5,qh2 h4 h5,qbm h4 h5,qbm h4 h5];rfl
theorem qe0 {w:List UInt8} (h1:qc5 (mkT w) [[40],[123]] = false) (h2:qc5 (mkT w) [[41],[125]] = false):Bal [mkT w]:=fun x r d hd=>by
 rw [List.singleton_append,qbe,h1,h2,if_neg Bool.false_ne_true,if_neg Bool.false_ne_true,if_pos hd]
theorem qiq (w:List UInt8) (h1:qc5 (rsT w) [[40],[123]] = false) (h2:qc5 (rsT w) [[41],[125]] = false):Bal [rsT w]:=fun x r d hd=>by
 rw [List.singleton_append,qbe,h1,h2,if_neg Bool.false_ne_true,if_neg Bool.false_ne_true,if_pos hd]
theorem bal_ar:Bal0 [mkT arW]:=⟨qe0 (by decide) (by decide),fun r=>by
 rw [List.singleton_append,qbe,if_neg (by decide),if_neg (by decide),if_neg (by decide),if_neg (by decide),if_neg (by decide)]⟩
theorem qnp {o e:List UInt8} (h1:qc5 (mkT o) [[40],[123]] = true) (h2:qc5 (mkT e) [[40],[123]] = false) (h3:qc5 (mkT e) [[41],[125]] = true) {ts:List T} (h:Bal ts) (x:List UInt8) (r:List T) (d:Int) (hd:0≤d) :
 qbe x (mkT o :: (ts ++ mkT e :: r)) d = qbe x r d:=by
 rw [qbe,if_pos h1,h x _ _ (by omega),qbe,h2,if_neg Bool.false_ne_true,if_pos h3,if_neg (by omega)]
 congr 1
 omega
theorem qlq {ts:List T} (h:Bal0 ts) (b:Bool):Bal0 (cloK b ts):=by
 cases b with
 | true=>exact h
 | false =>
   have e:∀ r:List T,cloK false ts ++ r = mkT [40] :: (ts ++ mkT [41] :: r):=fun r=>by simp [cloK]
   refine ⟨fun x r d hd=>?_,fun r=>?_⟩
   ·rw [e];exact qnp (by decide) (by decide) (by decide) h.1 x r d (by omega)
   ·rw [e];exact qnp (by decide) (by decide) (by decide) h.1 _ r 0 (by omega)
theorem ql3 {g:N->List T}:∀ (l:List N),(∀ x∈l,Bal0 (g x))->Bal0 ((l.map g).flatten)
 | [],_=>bal_nil
 | x :: l, h => by
   rw [List.map_cons,List.flatten_cons]
   exact (h x (by simp)).app (ql3 l fun y hy=>h y (by simp [hy]))
theorem qml (n:N):(qex n).kind≠4∧(qex n).kind≠5:=by
 unfold qex;dsimp only;split<;>exact ⟨by decide,by decide⟩
theorem qo5:∀ n,tyW n = true->Bal0 (tkT n):=N.ind fun n ih ht=>by
 rw [(wdT n ht).2,tkT']
 by_cases ha:n.kind≠1∧n.text = arW
 ·obtain ⟨hl,t0,t1⟩:=qdy ht ha
  rw [if_pos ha]
  have h1:=qlq (ih _ (qe (i:=0) (by omega)) t0) (!decide ((n.kids.getD 0 N0).text = arW))
  have h2:=ih _ (qe (i:=1) (by omega)) t1
  have:=h1.app (bal_ar.app h2)
  rwa [List.singleton_append] at this
 ·obtain ⟨_,_,hk⟩:=qf0 ht ha
  rw [if_neg ha]
  exact (qdd (qml n).1 (qml n).2).app (ql3 n.kids fun x hx=>qlq (ih x hx (hk x hx)) _)
def qcm (t:T):List (List T)->List T
 | []=>[]
 | [a]=>a
 | a :: b :: r=>a ++ t :: qcm t (b :: r)
theorem qff (a b:List UInt8) (r:List (List UInt8)) (s:List UInt8):Lib.join (a :: b :: r) s = a ++ (s ++ Lib.join (b :: r) s):=by
 simp [Lib.join,List.intercalate,List.intersperse]
theorem qgb (a s:List UInt8):Lib.join [a] s = a:=by simp [Lib.join,List.intercalate,List.intersperse]
theorem qop {f:N->List UInt8} {g:N->List T} {s:List UInt8} {t:T} (hs:∀ r,tokW (s ++ r) = (tokW r).map (t :: ·)) (hb:∀ r,bnd (s ++ r)):∀ (l:List N),l≠[]->(∀ x∈l,Wd (f x) (g x))->Wd (Lib.join (l.map f) s) (qcm t (l.map g))
 | [],h,_=>absurd rfl h
 | [x], _, h => by
   rw [List.map_singleton,qgb,List.map_singleton,qcm]
   exact h x (by simp)
 | x :: y :: l, _, h => fun r hr => by
   have ih:=qop hs hb (y :: l) (by simp) (fun z hz=>h z (by simp at hz ⊢;exact .inr hz)) r hr
   rw [List.map_cons,List.map_cons,qff,List.map_cons,List.map_cons,qcm,List.append_assoc,h x (by simp) _ (by rw [List.append_assoc];exact hb _),List.append_assoc,hs]
   rw [List.map_cons] at ih
   rw [ih,List.map_cons]
   cases tokW r<;>simp
theorem qh7 {t:T} (ht:Bal [t]):∀ l:List (List T),(∀ a∈l,Bal a)->Bal (qcm t l)
 | [],_=>bal_nil.1
 | [a],h=>h a (by simp)
 | a :: b :: r, h => by
   have:=(h a (by simp)).app (ht.app (qh7 ht (b :: r) fun x hx=>h x (by simp at hx ⊢;exact .inr hx)))
   rwa [List.singleton_append] at this
/-! predicates -/
def prH (n:N):T:=⟨2,0,0,n.text⟩
def prK (n:N):List T:=prH n :: atK (n.kids.getD 0 N0)
def ctK (l:List N):List T:=if l = [] then [] else cloK (decide (l.length = 1)) (qcm (mkT [44]) (l.map prK)) ++ [mkT [61,62]]
theorem qfk {n:N} (h:prW n = true):n.kind = 3∧n.num = 0∧conW n.text = true∧n.kids.length = 1∧tyW (n.kids.getD 0 N0) = true:=by
 simp only [prW,Bool.and_eq_true,decide_eq_true_eq] at h
 exact ⟨h.1.1.1.1,h.1.1.1.2,h.1.1.2,by have:=h.1.2;omega,h.2⟩
theorem qbg7 {n:N} (h:prW n = true):Wd (prT n) (prK n):=fun r hr=>by
 obtain ⟨_,_,h3,_,h5⟩:=qfk h
 rw [prT,atT,List.append_assoc,List.cons_append,qlb h3 (qce _),qbf,qjf (wdT _ h5).1 _ r hr,map_cons];rfl
theorem qss {n:N} (h:prW n = true):Bal0 (prK n):=by
 obtain ⟨_,_,_,_,h5⟩:=qfk h
 exact (qdd (t:=prH n) (by show (2:Int)≠4;decide) (by show (2:Int)≠5;decide)).app (qlq (qo5 _ h5) _)
theorem qbgo {l:List N} (h:∀ x∈l,prW x = true):∀ r,tokW (ctT l ++ r) = (tokW r).map (ctK l ++ ·):=fun r=>by
 by_cases hl:l = []
 ·rw [ctT,ctK,if_pos hl,if_pos hl,map_nil];rfl
 rw [ctT,ctK,if_neg hl,if_neg hl]
 have hj:Wd (Lib.join (l.map prT) cmW) (qcm (mkT [44]) (l.map prK)):=qop (fun r=>by
  show tokW (44 :: 32 :: r) = _
  rw [qbaj,qbf]) (fun r=>qbcc _) l hl fun x hx=>qbg7 (h x hx)
 simp only [List.append_assoc,List.cons_append,List.nil_append]
 rw [qjf hj _ _ (qce _),qbf,qba1,qbf]
 cases tokW r<;>simp

theorem qk6 (x:List UInt8):∀ (l:List T) (d:Int),qbe x (l.map bare) d = qbe x l d
 | [],d=>rfl
 | t :: r, d => by
   have h1:∀ w,qc5 (bare t) w = qc5 t w:=fun w=>qsf (t:=bare t) (t':=t) rfl w
   have h2:∀ w,qba (bare t) w = qba t w:=fun w=>qvd (t:=bare t) (t':=t) rfl w
   rw [List.map_cons,qbe,qbe,h1,h1,h2,h2]
   simp only [qk6 x r]
theorem Ah.ahead {c:K} {ts:List T} (h:Ah c ts) (x:List UInt8):qp1 c x = qbe x ts 0:=by
 rw [qp1,if_pos h.1,← h.2,qk6];rfl
theorem Ah.kindK {c:K} {t:T} {r:List T} (h:Ah c (t :: r)) {k:Int} (hk:t.kind = k):Go.Proofs.Ytlmcofjcpadmiaa.kindK c k = (qk c,true)∧qsd c k = qr c:=by
 have h1:(qr c).kind = k:=by rw [h.kind,hk]
 exact ⟨qum h.1 h1,q3e h.1 h1⟩
theorem Ah.fine {c:K} {t:T} {r:List T} (h:Ah c (t :: r)) (ht:t.kind≠0):qxq c = false:=by
 have hlt:c.at' < c.l.length:=by
  have:=h.len
  unfold rest at this
  simp only [List.length_cons] at this
  omega
 rw [qxq,qw8 h.1 (by omega),h.kind,decide_eq_false ht];rfl
section
variable {rec:K->K×Option N}
theorem qs4 {n:N} (hp:prW n = true) {c:K} {r:List T} (h:Ah c (prK n ++ r)) (hn:qn (n.kids.getD 0 N0) = false->c.nest < 200)
 (ih:qn (n.kids.getD 0 N0) = false->∀ d,Ah d (tkT (n.kids.getD 0 N0) ++ mkT [41] :: r)->rest d < rest c->d.nest = c.nest + 1->Got d (rec d) (n.kids.getD 0 N0) (mkT [41] :: r)):Got c (qc0 rec c) n r:=by
 obtain ⟨p1,p2,p3,p4,p5⟩:=qfk hp
 unfold prK at h
 rw [List.cons_append] at h
 obtain ⟨k1,k2⟩:=h.kindK (k:=2) rfl
 obtain ⟨_,q1,q2⟩:=h.cons
 have hte:=h.text
 have hlt:rest (qk c) < rest c:=by rw [q1.len,h.len];simp
 unfold qc0
 rw [k1,k2,if_pos rfl]
 obtain ⟨x,g1,g2,g3,g4⟩:=qua (rec:=rec) p5 q1 (fun hl=>by rw [q2];exact hn hl) fun hl d hd hdn=>ih hl d hd (by
  have:rest d≤rest (qk c):=by
   rw [hd.len,q1.len,atK,hl,cloK,if_neg Bool.false_ne_true]
   simp
  omega) (by rw [hdn,q2])
 have hks:n.kids = [n.kids.getD 0 N0]:=by
  cases hq:n.kids with
  | nil=>rw [hq] at p4;cases p4
  | cons a l => cases l with
    | nil=>rfl
    | cons _ _=>rw [hq] at p4;simp at p4
 refine ⟨qbcs (qr c) x,by dsimp only;rw [g1];rfl,qde p1.symm p2.symm hte ?_,g3,g4.trans q2⟩
 rw [hks]
 exact congrArg (· :: []) g2
theorem qjc (many:Bool):∀ (l:List N) (f:Nat) (c:K) (acc:List N) (r:List T),l≠[]->(many = false->l.length = 1)->(∀ x∈l,prW x = true)->Ah c (qcm (mkT [44]) (l.map prK) ++ r)->(∀ t s,r = t :: s->qba t [44] = false)->l.length < f →
 (∀ x∈l,qn (x.kids.getD 0 N0) = false->c.nest < 200)->(∀ x∈l,qn (x.kids.getD 0 N0) = false->∀ d s,Ah d (tkT (x.kids.getD 0 N0) ++ mkT [41] :: s)->rest d < rest c->d.nest = c.nest + 1->Got d (rec d) (x.kids.getD 0 N0) (mkT [41] :: s)) →
 ∃ xs,(qix rec many f c acc).2 = some (acc ++ xs)∧xs.map qf = l.map qf∧Ah (qix rec many f c acc).1 r∧(qix rec many f c acc).1.nest = c.nest
 | [],_,_,_,_,h,_,_,_,_,_,_,_=>absurd rfl h
 | l,0,c,acc,r,_,_,_,_,_,hf,_,_=>by omega
 | [x], f + 1, c, acc, r, _, _, hp, h, hr, _, hn, ih => by
   rw [qix]
   obtain ⟨y,g1,g2,g3,g4⟩:=qs4 (rec:=rec) (hp x (by simp)) (c:=c) (r:=r) h (hn x (by simp)) fun hl d hd hdr hdn=>ih x (by simp) hl d r hd hdr hdn
   have hno:qbh (qc0 rec c).1 [44] = ((qc0 rec c).1,false):=by
    cases r with
    | nil=>exact qom ((Ah.nil g3).2 _)
    | cons t s=>exact Ah.leave_it g3 (hr t s rfl)
   rw [if_pos (by rw [g1];rfl),hno]
   dsimp only
   rw [Bool.and_false,if_neg Bool.false_ne_true,g1]
   exact ⟨[y],rfl,congrArg (· :: []) g2,g3,g4⟩
 | x :: y :: l, f + 1, c, acc, r, _, hm, hp, h, hr, hf, hn, ih => by
   have hmany:many = true:=by
    cases many with
    | true=>rfl
    | false=>have:=hm rfl;simp at this
   subst hmany
   rw [qix]
   rw [List.map_cons,List.map_cons,qcm,← List.map_cons,List.append_assoc,List.cons_append] at h
   obtain ⟨z,g1,g2,g3,g4⟩:=qs4 (rec:=rec) (hp x (by simp)) h (hn x (by simp)) fun hl d hd hdr hdn=>ih x (by simp) hl d _ hd hdr hdn
   rw [if_pos (by rw [g1];rfl),g3.take (qbc _)]
   dsimp only
   rw [Bool.and_true,if_pos rfl,g1]
   obtain ⟨_,q1,q2⟩:=g3.cons
   have hlt:rest (qk (qc0 rec c).1) < rest c:=by rw [q1.len,h.len];simp only [List.length_append,List.length_cons];omega
   obtain ⟨xs,k1,k2,k3,k4⟩:=qjc true (y :: l) f _ (acc ++ [z]) r (by simp) (fun h=>by cases h) (fun w hw=>hp w (by simp at hw ⊢;exact .inr hw)) q1 hr (by simp at hf ⊢;omega)
    (fun w hw hl=>by rw [q2,g4];exact hn w (by simp at hw ⊢;exact .inr hw) hl) fun w hw hl d s hd hdr hdn=>ih w (by simp at hw ⊢;exact .inr hw) hl d s hd (by omega) (by rw [hdn,q2,g4])
   refine ⟨z :: xs,?_,?_,k3,k4.trans (q2.trans g4)⟩
   ·dsimp only [Option.getD_some];rw [k1];simp
   ·rw [List.map_cons,List.map_cons,k2];exact congrArg (· :: _) g2
theorem qbeh {l:List N} (hp:∀ x∈l,prW x = true) {c:K} {r:List T} (h:Ah c (ctK l ++ r)) (hr:l = []->qbe [61,62] r 0 = false∧∀ t s,r = t :: s->t.kind≠0) (hr0:r≠[])
 (hn:∀ x∈l,qn (x.kids.getD 0 N0) = false->c.nest < 200) (ih:∀ x∈l,qn (x.kids.getD 0 N0) = false->∀ d s,Ah d (tkT (x.kids.getD 0 N0) ++ mkT [41] :: s)->rest d < rest c->d.nest = c.nest + 1->Got d (rec d) (x.kids.getD 0 N0) (mkT [41] :: s)) :
 ∃ xs,(qcs rec c).2 = some xs∧xs.map qf = l.map qf∧Ah (qcs rec c).1 r∧(qcs rec c).1.nest = c.nest:=by
 unfold qcs
 by_cases hl:l = []
 ·subst hl
  have h:Ah c r:=by rw [ctK,if_pos rfl] at h;exact h
  obtain ⟨h1,h2⟩:=hr rfl
  rw [h.ahead,h1,if_neg Bool.false_ne_true]
  have hf:qxq c = false:=by
   cases r with
   | nil=>exact absurd rfl hr0
   | cons t s=>exact h.fine (h2 t s rfl)
  rw [hf,if_neg Bool.false_ne_true]
  exact ⟨[],rfl,rfl,h,rfl⟩
 ·rw [ctK,if_neg hl,List.append_assoc,List.singleton_append] at h
  have hbal:Bal0 (qcm (mkT [44]) (l.map prK))∨1 < l.length:=by
   cases l with
   | nil=>exact absurd rfl hl
   | cons x l => cases l with
     | nil=>exact .inl (qss (hp x (by simp)))
     | cons _ _=>exact .inr (by simp)
  have hB:Bal (qcm (mkT [44]) (l.map prK)):=qh7 (qe0 (by decide) (by decide)) _ fun a ha=>by
   obtain ⟨x,hx,rfl⟩:=List.mem_map.1 ha
   exact (qss (hp x hx)).1
  have hah:qp1 c [61,62] = true:=by
   rw [h.ahead]
   by_cases h1:l.length = 1
   ·have hb0:Bal0 (qcm (mkT [44]) (l.map prK)):=hbal.elim id fun h=>by omega
    rw [decide_eq_true h1,cloK,if_pos rfl,hb0.2,qbe]
    rw [if_neg (by decide),if_neg (by decide),if_neg (by decide),if_neg (by decide),if_pos (by decide)]
   ·rw [decide_eq_false h1,cloK,if_neg Bool.false_ne_true,List.cons_append,List.append_assoc,List.singleton_append,qnp (by decide) (by decide) (by decide) hB _ _ _ (by decide),qbe]
    rw [if_neg (by decide),if_neg (by decide),if_neg (by decide),if_neg (by decide),if_pos (by decide)]
  rw [if_pos hah]
  have hflat:l.length≤(qcm (mkT [44]) (l.map prK)).length:=by
   have:∀ m:List N,m.length≤(qcm (mkT [44]) (m.map prK)).length:=fun m=>by
    induction m with
    | nil=>simp
    | cons x m ihm => cases m with
      | nil=>simp [qcm,prK]
      | cons y m =>
        rw [List.map_cons,List.map_cons,qcm,← List.map_cons]
        simp only [List.length_append,List.length_cons] at ihm ⊢
        omega
   exact this l
  by_cases h1:l.length = 1
  ·rw [decide_eq_true h1,cloK,if_pos rfl] at h
   have hno:qbh c [40] = (c,false):=by
    cases l with
    | nil=>exact absurd rfl hl
    | cons x l => cases l with
      | nil=>exact Ah.leave_it (t:=prH x) (by simpa [qcm,prK] using h) (qbm (t:=prH x) (by show (2:Int)≠4;decide) (by show (2:Int)≠5;decide) _)
      | cons _ _=>simp at h1
   rw [qv0,hno]
   dsimp only
   rw [Bool.false_and,if_neg Bool.false_ne_true]
   obtain ⟨xs,k1,k2,k3,k4⟩:=qjc (rec:=rec) false l (rest c + 1) c [] _ hl (fun _=>h1) hp h (fun t s e=>by obtain ⟨rfl,_⟩:=List.cons.inj e;decide) (by rw [h.len];simp only [List.length_append];omega) hn ih
   rw [qsy,if_pos (by rw [k1];rfl),if_neg Bool.false_ne_true,k3.want (qbc _)]
   dsimp only
   rw [if_pos rfl]
   obtain ⟨_,q1,q2⟩:=k3.cons
   exact ⟨xs,k1,k2,q1,q2.trans k4⟩
  ·rw [decide_eq_false h1,cloK,if_neg Bool.false_ne_true,List.cons_append,List.append_assoc,List.singleton_append] at h
   have hyes:=h.take (x:=[40]) (qbc _)
   obtain ⟨_,q1,q2⟩:=h.cons
   have hlt:rest (qk c) < rest c:=by rw [q1.len,h.len];simp
   rw [qv0,hyes]
   dsimp only
   have hno:isK (qk c) [41] = false:=by
    cases l with
    | nil=>exact absurd rfl hl
    | cons x l => cases l with
      | nil=>simp at h1
      | cons y l =>
        have q1':Ah (qk c) (prH x :: (atK (x.kids.getD 0 N0) ++ (mkT [44] :: qcm (mkT [44]) ((y :: l).map prK) ++ (mkT [41] :: mkT [61,62] :: r)))):=by
         have:=q1
         rw [List.map_cons,List.map_cons,qcm,← List.map_cons,prK] at this
         simpa using this
        rw [q1'.is]
        exact qbm (t:=prH x) (by show (2:Int)≠4;decide) (by show (2:Int)≠5;decide) _
   rw [hno,Bool.and_false,if_neg Bool.false_ne_true]
   obtain ⟨xs,k1,k2,k3,k4⟩:=qjc (rec:=rec) true l (rest (qk c) + 1) (qk c) [] _ hl (fun h=>by cases h) hp q1 (fun t s e=>by obtain ⟨rfl,_⟩:=List.cons.inj e;decide) (by rw [q1.len];simp only [List.length_append];omega)
    (fun x hx hlf=>by rw [q2];exact hn x hx hlf) fun x hx hlf d s hd hdr hdn=>ih x hx hlf d s hd (by omega) (by rw [hdn,q2])
   rw [qsy,if_pos (by rw [k1];rfl),if_pos rfl,k3.want (qbc _)]
   dsimp only
   rw [if_pos rfl]
   obtain ⟨_,p1,p2⟩:=k3.cons
   rw [p1.want (qbc _)]
   dsimp only
   rw [if_pos rfl]
   obtain ⟨_,s1,s2⟩:=p1.cons
   exact ⟨xs,k1,k2,s1,s2.trans (p2.trans (k4.trans q2))⟩
end
/-! contexts and types -/
def qc4 (n:N):List N:=n.kids.take (n.kids.length - 1)
def qgk (n:N):N:=n.kids.getD (n.kids.length - 1) N0
def tkQ (n:N):List T:=ctK (qc4 n) ++ tkT (qgk n)
theorem qgm {n:N} (h:quW n = true):n.kind = 4∧n.text = []∧n.num = 0∧n.kids = qc4 n ++ [qgk n]∧(∀ x∈qc4 n,prW x = true)∧tyW (qgk n) = true:=by
 have e:((n.kids.length:Int) - 1).toNat = n.kids.length - 1:=by omega
 simp only [quW,qjx,Bool.and_eq_true,decide_eq_true_eq,e,List.all_eq_true] at h
 obtain ⟨⟨⟨⟨h1,h2,h3⟩,h4⟩,h5⟩,h6⟩:=h
 refine ⟨h1,h2,h3,?_,h5,h6⟩
 have hl:n.kids.length - 1 < n.kids.length:=by omega
 rw [qc4,qgk,← q2u hl,List.take_of_length_le (by omega)]
theorem qbg0 {n:N} (h:quW n = true):Wd (quT n) (tkQ n):=fun r hr=>by
 obtain ⟨_,_,_,_,h5,h6⟩:=qgm h
 rw [quT,tkQ,List.append_assoc]
 show tokW (ctT (qc4 n) ++ (ptT (qgk n) ++ r)) = _
 rw [qbgo h5,(wdT _ h6).1 r hr,qwa]
theorem qxf {n:N} (ht:tyW n = true):∃ t s,tkT n = t :: s∧t.kind≠0:=by
 rw [(wdT n ht).2,tkT']
 by_cases ha:n.kind≠1∧n.text = arW
 ·obtain ⟨_,t0,_⟩:=qdy ht ha
  rw [if_pos ha]
  cases hb:(!decide ((n.kids.getD 0 N0).text = arW)) with
  | false=>exact ⟨_,_,rfl,by show (5:Int)≠0;decide⟩
  | true =>
    have ha0:¬ ((n.kids.getD 0 N0).kind≠1∧(n.kids.getD 0 N0).text = arW):=fun h=>by rw [decide_eq_true h.2] at hb;cases hb
    rw [cloK,if_pos rfl,(wdT _ t0).2,tkT',if_neg ha0]
    exact ⟨_,_,rfl,by unfold qex;dsimp only;split<;>decide⟩
 ·rw [if_neg ha]
  exact ⟨_,_,rfl,by unfold qex;dsimp only;split<;>decide⟩
theorem q1m {n:N} (hq:quW n = true) {c:K} {r:List T} (h:Ah c (tkQ n ++ r)) (hr:NoA r) (hr':NoR r) (ha:qbe [61,62] r 0 = false) {f:Nat} (hf:rest c < f) (hd:c.nest + 2 * dp n≤201):Got c (qjr f c) n r:=by
 obtain ⟨q1,q2,q3,q4,q5,q6⟩:=qgm hq
 have hpos:=qfi n
 rw [tkQ,List.append_assoc] at h
 have hmem:∀ x∈qc4 n,x∈n.kids:=fun x hx=>List.mem_of_mem_take hx
 have hmemt:qgk n∈n.kids:=by rw [q4];simp
 obtain ⟨t,s,e1,e2⟩:=qxf q6
 have hkid:∀ x∈qc4 n,dp (x.kids.getD 0 N0) + 2≤dp n∧tyW (x.kids.getD 0 N0) = true:=fun x hx=>by
  obtain ⟨_,_,_,p4,p5⟩:=qfk (q5 x hx)
  have h1:=qbq (hmem x hx)
  have h2:=qbq (qe (l:=x.kids) (i:=0) (by omega))
  exact ⟨by omega,p5⟩
 obtain ⟨xs,g1,g2,g3,g4⟩:=qbeh (rec:=qbp f) q5 h (fun _=>⟨by rw [(qo5 _ q6).2];exact ha,fun t' s' e=>by
  rw [e1,List.cons_append] at e
  obtain ⟨rfl,_⟩:=List.cons.inj e
  exact e2⟩) (by rw [e1];simp) (fun x hx hl=>by have:=(hkid x hx).1;have:=qfi (x.kids.getD 0 N0);omega) fun x hx hl d s' hd' hdr hdn =>
   qjq f _ d _ (hkid x hx).2 hd' (qm9 (by decide)) (qj9 (by decide)) (by omega) (by have:=(hkid x hx).1;omega)
 have hlt:rest (qcs (qbp f) c).1≤rest c:=by rw [g3.len,h.len];simp
 obtain ⟨y,k1,k2,k3,k4⟩:=qjq f _ _ r q6 g3 hr hr' (by omega) (by have:=qbq hmemt;rw [g4];omega)
 unfold qjr
 rw [if_pos (by rw [g1];rfl),g1,k1]
 refine ⟨_,rfl,qde q1.symm q3.symm q2.symm ?_,k3,k4.trans g4⟩
 rw [q4]
 show (xs ++ [y]).map qf = _
 rw [List.map_append,List.map_append,g2]
 exact congrArg (_ ++ [·]) k2
end Go.Proofs.Ytlmcofjcpadmiaa
