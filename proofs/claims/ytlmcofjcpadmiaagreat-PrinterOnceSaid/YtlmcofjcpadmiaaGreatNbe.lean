/- Texts of this proof, joined. -/
import Derived.Test.YtlmcofjcpadmiaaGreatNbc
set_option linter.unusedVariables false
set_option linter.unusedSimpArgs false

/- contexts that are written: their words; they are read as they were -/
namespace Go.Proofs.YtlmcofjcpadmiaaGreat
open Go Go.RowKit Go.V

def Bal (ts:List T):Prop:=∀ (x:List UInt8) (r:List T) (d:Int),0 < d->qcw x (ts ++ r) d = qcw x r d
def Bal0 (ts:List T):Prop:=Bal ts∧∀ r:List T,qcw [61,62] (ts ++ r) 0 = qcw [61,62] r 0
theorem bal_nil:Bal0 []:=⟨fun x r d _=>rfl,fun r=>rfl⟩
theorem Bal.app {a b:List T} (h:Bal a) (k:Bal b):Bal (a ++ b):=fun x r d hd=>by rw [List.append_assoc,h x _ d hd,k x r d hd]
theorem Bal0.app {a b:List T} (h:Bal0 a) (k:Bal0 b):Bal0 (a ++ b):=⟨h.1.app k.1,fun r=>by rw [List.append_assoc,h.2,k.2]⟩
theorem qqb {t:T} (h4:t.kind≠4) (h5:t.kind≠5) (l:List (List UInt8)):qcl t l = false:=by simp [qcl,h4,h5]
theorem qc9 {t:T} (h4:t.kind≠4) (h5:t.kind≠5) (l:List UInt8):qcg t l = false:=by simp [qcg,h4,h5]
theorem qf9 {t:T} (h4:t.kind≠4) (h5:t.kind≠5):Bal0 [t]:=by
 refine ⟨fun x r d hd=>?_,fun r=>?_⟩
 ·rw [List.singleton_append,qcw,qqb h4 h5,qqb h4 h5,if_neg Bool.false_ne_true,if_neg Bool.false_ne_true,if_pos hd]
 ·rw [List.singleton_append,qcw,qqb h4 h5,qqb h4 h5,qc9 h4 h5,qc9 h4 h5];rfl
theorem qki {w:List UInt8} (h1:qcl (mkT w) [[40],[123]] = false) (h2:qcl (mkT w) [[41],[125]] = false):Bal [mkT w]:=fun x r d hd=>by
 rw [List.singleton_append,qcw,h1,h2,if_neg Bool.false_ne_true,if_neg Bool.false_ne_true,if_pos hd]
theorem qs9 (w:List UInt8) (h1:qcl (rsT w) [[40],[123]] = false) (h2:qcl (rsT w) [[41],[125]] = false):Bal [rsT w]:=fun x r d hd=>by
 rw [List.singleton_append,qcw,h1,h2,if_neg Bool.false_ne_true,if_neg Bool.false_ne_true,if_pos hd]
theorem bal_ar:Bal0 [mkT arW]:=⟨qki (by decide) (by decide),fun r=>by
 rw [List.singleton_append,qcw,if_neg (by decide),if_neg (by decide),if_neg (by decide),if_neg (by decide),if_neg (by decide)]⟩
theorem qvq {o e:List UInt8} (h1:qcl (mkT o) [[40],[123]] = true) (h2:qcl (mkT e) [[40],[123]] = false) (h3:qcl (mkT e) [[41],[125]] = true) {ts:List T} (h:Bal ts) (x:List UInt8) (r:List T) (d:Int) (hd:0≤d) :
 qcw x (mkT o :: (ts ++ mkT e :: r)) d = qcw x r d:=by
 rw [qcw,if_pos h1,h x _ _ (by omega),qcw,h2,if_neg Bool.false_ne_true,if_pos h3,if_neg (by omega)]
 congr 1
 omega
theorem qtf {ts:List T} (h:Bal0 ts) (b:Bool):Bal0 (cloK b ts):=by
 cases b with
 | true=>exact h
 | false =>
   have e:∀ r:List T,cloK false ts ++ r = mkT [40] :: (ts ++ mkT [41] :: r):=fun r=>by simp [cloK]
   refine ⟨fun x r d hd=>?_,fun r=>?_⟩
   ·rw [e];exact qvq (by decide) (by decide) (by decide) h.1 x r d (by omega)
   ·rw [e];exact qvq (by decide) (by decide) (by decide) h.1 _ r 0 (by omega)
theorem qw0 {g:N->List T}:∀ (l:List N),(∀ x∈l,Bal0 (g x))->Bal0 ((l.map g).flatten)
 | [],_=>bal_nil
 | x :: l, h => by
   rw [List.map_cons,List.flatten_cons]
   exact (h x (by simp)).app (qw0 l fun y hy=>h y (by simp [hy]))
theorem q1x (n:N):(qjb n).kind≠4∧(qjb n).kind≠5:=by
 unfold qjb;dsimp only;split<;>exact ⟨by decide,by decide⟩
theorem qw5:∀ n,tyW n = true->Bal0 (tkT n):=N.ind fun n ih ht=>by
 rw [(wdT n ht).2,tkT']
 by_cases ha:n.kind≠1∧n.text = arW
 ·obtain ⟨hl,t0,t1⟩:=qih ht ha
  rw [if_pos ha]
  have h1:=qtf (ih _ (qi (i:=0) (by omega)) t0) (!decide ((n.kids.getD 0 N0).text = arW))
  have h2:=ih _ (qi (i:=1) (by omega)) t1
  have:=h1.app (bal_ar.app h2)
  rwa [List.singleton_append] at this
 ·obtain ⟨_,_,hk⟩:=qkc ht ha
  rw [if_neg ha]
  exact (qf9 (q1x n).1 (q1x n).2).app (qw0 n.kids fun x hx=>qtf (ih x hx (hk x hx)) _)
def qeo (t:T):List (List T)->List T
 | []=>[]
 | [a]=>a
 | a :: b :: r=>a ++ t :: qeo t (b :: r)
theorem qkw (a b:List UInt8) (r:List (List UInt8)) (s:List UInt8):Lib.join (a :: b :: r) s = a ++ (s ++ Lib.join (b :: r) s):=by
 simp [Lib.join,List.intercalate,List.intersperse]
theorem qm6 (a s:List UInt8):Lib.join [a] s = a:=by simp [Lib.join,List.intercalate,List.intersperse]
theorem qv3 {f:N->List UInt8} {g:N->List T} {s:List UInt8} {t:T} (hs:∀ r,tokW (s ++ r) = (tokW r).map (t :: ·)) (hb:∀ r,bnd (s ++ r)):∀ (l:List N),l≠[]->(∀ x∈l,Wd (f x) (g x))->Wd (Lib.join (l.map f) s) (qeo t (l.map g))
 | [],h,_=>absurd rfl h
 | [x], _, h => by
   rw [List.map_singleton,qm6,List.map_singleton,qeo]
   exact h x (by simp)
 | x :: y :: l, _, h => fun r hr => by
   have ih:=qv3 hs hb (y :: l) (by simp) (fun z hz=>h z (by simp at hz ⊢;exact .inr hz)) r hr
   rw [List.map_cons,List.map_cons,qkw,List.map_cons,List.map_cons,qeo,List.append_assoc,h x (by simp) _ (by rw [List.append_assoc];exact hb _),List.append_assoc,hs]
   rw [List.map_cons] at ih
   rw [ih,List.map_cons]
   cases tokW r<;>simp
theorem qnu {t:T} (ht:Bal [t]):∀ l:List (List T),(∀ a∈l,Bal a)->Bal (qeo t l)
 | [],_=>bal_nil.1
 | [a],h=>h a (by simp)
 | a :: b :: r, h => by
   have:=(h a (by simp)).app (ht.app (qnu ht (b :: r) fun x hx=>h x (by simp at hx ⊢;exact .inr hx)))
   rwa [List.singleton_append] at this
/-! predicates -/
def prH (n:N):T:=⟨2,0,0,n.text⟩
def prK (n:N):List T:=prH n :: atK (n.kids.getD 0 N0)
def ctK (l:List N):List T:=if l = [] then [] else cloK (decide (l.length = 1)) (qeo (mkT [44]) (l.map prK)) ++ [mkT [61,62]]
theorem qjl {n:N} (h:prW n = true):n.kind = 3∧n.num = 0∧conW n.text = true∧n.kids.length = 1∧tyW (n.kids.getD 0 N0) = true:=by
 simp only [prW,Bool.and_eq_true,decide_eq_true_eq] at h
 exact ⟨h.1.1.1.1,h.1.1.1.2,h.1.1.2,by have:=h.1.2;omega,h.2⟩
theorem qckk {n:N} (h:prW n = true):Wd (prT n) (prK n):=fun r hr=>by
 obtain ⟨_,_,h3,_,h5⟩:=qjl h
 rw [prT,atT,List.append_assoc,List.cons_append,qmx h3 (qdu _),qch,qna (wdT _ h5).1 _ r hr,map_cons];rfl
theorem qbd4 {n:N} (h:prW n = true):Bal0 (prK n):=by
 obtain ⟨_,_,_,_,h5⟩:=qjl h
 exact (qf9 (t:=prH n) (by show (2:Int)≠4;decide) (by show (2:Int)≠5;decide)).app (qtf (qw5 _ h5) _)
theorem qcc7 {l:List N} (h:∀ x∈l,prW x = true):∀ r,tokW (ctT l ++ r) = (tokW r).map (ctK l ++ ·):=fun r=>by
 by_cases hl:l = []
 ·rw [ctT,ctK,if_pos hl,if_pos hl,map_nil];rfl
 rw [ctT,ctK,if_neg hl,if_neg hl]
 have hj:Wd (Lib.join (l.map prT) cmW) (qeo (mkT [44]) (l.map prK)):=qv3 (fun r=>by
  show tokW (44 :: 32 :: r) = _
  rw [qci8,qch]) (fun r=>qccw _) l hl fun x hx=>qckk (h x hx)
 simp only [List.append_assoc,List.cons_append,List.nil_append]
 rw [qna hj _ _ (qdu _),qch,qcgr,qch]
 cases tokW r<;>simp

theorem qur (x:List UInt8):∀ (l:List T) (d:Int),qcw x (l.map bare) d = qcw x l d
 | [],d=>rfl
 | t :: r, d => by
   have h1:∀ w,qcl (bare t) w = qcl t w:=fun w=>q9i (t:=bare t) (t':=t) rfl w
   have h2:∀ w,qcg (bare t) w = qcg t w:=fun w=>qbcn (t:=bare t) (t':=t) rfl w
   rw [List.map_cons,qcw,qcw,h1,h1,h2,h2]
   simp only [qur x r]
theorem Ah.ahead {c:K} {ts:List T} (h:Ah c ts) (x:List UInt8):qll c x = qcw x ts 0:=by
 rw [qll,if_pos h.1,← h.2,qur];rfl
theorem Ah.kindK {c:K} {t:T} {r:List T} (h:Ah c (t :: r)) {k:Int} (hk:t.kind = k):Go.Proofs.YtlmcofjcpadmiaaGreat.kindK c k = (qg c,true)∧qen c k = qp c:=by
 have h1:(qp c).kind = k:=by rw [h.kind,hk]
 exact ⟨qs3 h.1 h1,qx7 h.1 h1⟩
theorem Ah.fine {c:K} {t:T} {r:List T} (h:Ah c (t :: r)) (ht:t.kind≠0):qon c = false:=by
 have hlt:c.at' < c.l.length:=by
  have:=h.len
  unfold rest at this
  simp only [List.length_cons] at this
  omega
 rw [qon,qxh h.1 (by omega),h.kind,decide_eq_false ht];rfl
section
variable {rec:K->K×Option N}
theorem qbaw {n:N} (hp:prW n = true) {c:K} {r:List T} (h:Ah c (prK n ++ r)) (hn:qbi (n.kids.getD 0 N0) = false->c.nest < 200)
 (ih:qbi (n.kids.getD 0 N0) = false->∀ d,Ah d (tkT (n.kids.getD 0 N0) ++ mkT [41] :: r)->rest d < rest c->d.nest = c.nest + 1->Got d (rec d) (n.kids.getD 0 N0) (mkT [41] :: r)):Got c (qz rec c) n r:=by
 obtain ⟨p1,p2,p3,p4,p5⟩:=qjl hp
 unfold prK at h
 rw [List.cons_append] at h
 obtain ⟨k1,k2⟩:=h.kindK (k:=2) rfl
 obtain ⟨_,q1,q2⟩:=h.cons
 have hte:=h.text
 have hlt:rest (qg c) < rest c:=by rw [q1.len,h.len];simp
 unfold qz
 rw [k1,k2,if_pos rfl]
 obtain ⟨x,g1,g2,g3,g4⟩:=q5n (rec:=rec) p5 q1 (fun hl=>by rw [q2];exact hn hl) fun hl d hd hdn=>ih hl d hd (by
  have:rest d≤rest (qg c):=by
   rw [hd.len,q1.len,atK,hl,cloK,if_neg Bool.false_ne_true]
   simp
  omega) (by rw [hdn,q2])
 have hks:n.kids = [n.kids.getD 0 N0]:=by
  cases hq:n.kids with
  | nil=>rw [hq] at p4;cases p4
  | cons a l => cases l with
    | nil=>rfl
    | cons _ _=>rw [hq] at p4;simp at p4
 refine ⟨qp0 (qp c) x,by dsimp only;rw [g1];rfl,qfw p1.symm p2.symm hte ?_,g3,g4.trans q2⟩
 rw [hks]
 exact congrArg (· :: []) g2
theorem qto (many:Bool):∀ (l:List N) (f:Nat) (c:K) (acc:List N) (r:List T),l≠[]->(many = false->l.length = 1)->(∀ x∈l,prW x = true)->Ah c (qeo (mkT [44]) (l.map prK) ++ r)->(∀ t s,r = t :: s->qcg t [44] = false)->l.length < f →
 (∀ x∈l,qbi (x.kids.getD 0 N0) = false->c.nest < 200)->(∀ x∈l,qbi (x.kids.getD 0 N0) = false->∀ d s,Ah d (tkT (x.kids.getD 0 N0) ++ mkT [41] :: s)->rest d < rest c->d.nest = c.nest + 1->Got d (rec d) (x.kids.getD 0 N0) (mkT [41] :: s)) →
 ∃ xs,(qdc rec many f c acc).2 = some (acc ++ xs)∧xs.map qk = l.map qk∧Ah (qdc rec many f c acc).1 r∧(qdc rec many f c acc).1.nest = c.nest
 | [],_,_,_,_,h,_,_,_,_,_,_,_=>absurd rfl h
 | l,0,c,acc,r,_,_,_,_,_,hf,_,_=>by omega
 | [x], f + 1, c, acc, r, _, _, hp, h, hr, _, hn, ih => by
   rw [qdc]
   obtain ⟨y,g1,g2,g3,g4⟩:=qbaw (rec:=rec) (hp x (by simp)) (c:=c) (r:=r) h (hn x (by simp)) fun hl d hd hdr hdn=>ih x (by simp) hl d r hd hdr hdn
   have hno:qf (qz rec c).1 [44] = ((qz rec c).1,false):=by
    cases r with
    | nil=>exact qkq ((Ah.nil g3).2 _)
    | cons t s=>exact Ah.leave_it g3 (hr t s rfl)
   rw [if_pos (by rw [g1];rfl),hno]
   dsimp only
   rw [Bool.and_false,if_neg Bool.false_ne_true,g1]
   exact ⟨[y],rfl,congrArg (· :: []) g2,g3,g4⟩
 | x :: y :: l, f + 1, c, acc, r, _, hm, hp, h, hr, hf, hn, ih => by
   have hmany:many = true:=by
    cases many with
    | true=>rfl
    | false=>have:=hm rfl;simp at this
   subst hmany
   rw [qdc]
   rw [List.map_cons,List.map_cons,qeo,← List.map_cons,List.append_assoc,List.cons_append] at h
   obtain ⟨z,g1,g2,g3,g4⟩:=qbaw (rec:=rec) (hp x (by simp)) h (hn x (by simp)) fun hl d hd hdr hdn=>ih x (by simp) hl d _ hd hdr hdn
   rw [if_pos (by rw [g1];rfl),g3.take (qcb _)]
   dsimp only
   rw [Bool.and_true,if_pos rfl,g1]
   obtain ⟨_,q1,q2⟩:=g3.cons
   have hlt:rest (qg (qz rec c).1) < rest c:=by rw [q1.len,h.len];simp only [List.length_append,List.length_cons];omega
   obtain ⟨xs,k1,k2,k3,k4⟩:=qto true (y :: l) f _ (acc ++ [z]) r (by simp) (fun h=>by cases h) (fun w hw=>hp w (by simp at hw ⊢;exact .inr hw)) q1 hr (by simp at hf ⊢;omega)
    (fun w hw hl=>by rw [q2,g4];exact hn w (by simp at hw ⊢;exact .inr hw) hl) fun w hw hl d s hd hdr hdn=>ih w (by simp at hw ⊢;exact .inr hw) hl d s hd (by omega) (by rw [hdn,q2,g4])
   refine ⟨z :: xs,?_,?_,k3,k4.trans (q2.trans g4)⟩
   ·dsimp only [Option.getD_some];rw [k1];simp
   ·rw [List.map_cons,List.map_cons,k2];exact congrArg (· :: _) g2
theorem qbpx {l:List N} (hp:∀ x∈l,prW x = true) {c:K} {r:List T} (h:Ah c (ctK l ++ r)) (hr:l = []->qcw [61,62] r 0 = false∧∀ t s,r = t :: s->t.kind≠0) (hr0:r≠[])
 (hn:∀ x∈l,qbi (x.kids.getD 0 N0) = false->c.nest < 200) (ih:∀ x∈l,qbi (x.kids.getD 0 N0) = false->∀ d s,Ah d (tkT (x.kids.getD 0 N0) ++ mkT [41] :: s)->rest d < rest c->d.nest = c.nest + 1->Got d (rec d) (x.kids.getD 0 N0) (mkT [41] :: s)) :
 ∃ xs,(qt rec c).2 = some xs∧xs.map qk = l.map qk∧Ah (qt rec c).1 r∧(qt rec c).1.nest = c.nest:=by
 unfold qt
 by_cases hl:l = []
 ·subst hl
  have h:Ah c r:=by rw [ctK,if_pos rfl] at h;exact h
  obtain ⟨h1,h2⟩:=hr rfl
  rw [h.ahead,h1,if_neg Bool.false_ne_true]
  have hf:qon c = false:=by
   cases r with
   | nil=>exact absurd rfl hr0
   | cons t s=>exact h.fine (h2 t s rfl)
  rw [hf,if_neg Bool.false_ne_true]
  exact ⟨[],rfl,rfl,h,rfl⟩
 ·rw [ctK,if_neg hl,List.append_assoc,List.singleton_append] at h
  have hbal:Bal0 (qeo (mkT [44]) (l.map prK))∨1 < l.length:=by
   cases l with
   | nil=>exact absurd rfl hl
   | cons x l => cases l with
     | nil=>exact .inl (qbd4 (hp x (by simp)))
     | cons _ _=>exact .inr (by simp)
  have hB:Bal (qeo (mkT [44]) (l.map prK)):=qnu (qki (by decide) (by decide)) _ fun a ha=>by
   obtain ⟨x,hx,rfl⟩:=List.mem_map.1 ha
   exact (qbd4 (hp x hx)).1
  have hah:qll c [61,62] = true:=by
   rw [h.ahead]
   by_cases h1:l.length = 1
   ·have hb0:Bal0 (qeo (mkT [44]) (l.map prK)):=hbal.elim id fun h=>by omega
    rw [decide_eq_true h1,cloK,if_pos rfl,hb0.2,qcw]
    rw [if_neg (by decide),if_neg (by decide),if_neg (by decide),if_neg (by decide),if_pos (by decide)]
   ·rw [decide_eq_false h1,cloK,if_neg Bool.false_ne_true,List.cons_append,List.append_assoc,List.singleton_append,qvq (by decide) (by decide) (by decide) hB _ _ _ (by decide),qcw]
    rw [if_neg (by decide),if_neg (by decide),if_neg (by decide),if_neg (by decide),if_pos (by decide)]
  rw [if_pos hah]
  have hflat:l.length≤(qeo (mkT [44]) (l.map prK)).length:=by
   have:∀ m:List N,m.length≤(qeo (mkT [44]) (m.map prK)).length:=fun m=>by
    induction m with
    | nil=>simp
    | cons x m ihm => cases m with
      | nil=>simp [qeo,prK]
      | cons y m =>
        rw [List.map_cons,List.map_cons,qeo,← List.map_cons]
        simp only [List.length_append,List.length_cons] at ihm ⊢
        omega
   exact this l
  by_cases h1:l.length = 1
  ·rw [decide_eq_true h1,cloK,if_pos rfl] at h
   have hno:qf c [40] = (c,false):=by
    cases l with
    | nil=>exact absurd rfl hl
    | cons x l => cases l with
      | nil=>exact Ah.leave_it (t:=prH x) (by simpa [qeo,prK] using h) (qc9 (t:=prH x) (by show (2:Int)≠4;decide) (by show (2:Int)≠5;decide) _)
      | cons _ _=>simp at h1
   rw [qek,hno]
   dsimp only
   rw [Bool.false_and,if_neg Bool.false_ne_true]
   obtain ⟨xs,k1,k2,k3,k4⟩:=qto (rec:=rec) false l (rest c + 1) c [] _ hl (fun _=>h1) hp h (fun t s e=>by obtain ⟨rfl,_⟩:=List.cons.inj e;decide) (by rw [h.len];simp only [List.length_append];omega) hn ih
   rw [qel,if_pos (by rw [k1];rfl),if_neg Bool.false_ne_true,k3.want (qcb _)]
   dsimp only
   rw [if_pos rfl]
   obtain ⟨_,q1,q2⟩:=k3.cons
   exact ⟨xs,k1,k2,q1,q2.trans k4⟩
  ·rw [decide_eq_false h1,cloK,if_neg Bool.false_ne_true,List.cons_append,List.append_assoc,List.singleton_append] at h
   have hyes:=h.take (x:=[40]) (qcb _)
   obtain ⟨_,q1,q2⟩:=h.cons
   have hlt:rest (qg c) < rest c:=by rw [q1.len,h.len];simp
   rw [qek,hyes]
   dsimp only
   have hno:isK (qg c) [41] = false:=by
    cases l with
    | nil=>exact absurd rfl hl
    | cons x l => cases l with
      | nil=>simp at h1
      | cons y l =>
        have q1':Ah (qg c) (prH x :: (atK (x.kids.getD 0 N0) ++ (mkT [44] :: qeo (mkT [44]) ((y :: l).map prK) ++ (mkT [41] :: mkT [61,62] :: r)))):=by
         have:=q1
         rw [List.map_cons,List.map_cons,qeo,← List.map_cons,prK] at this
         simpa using this
        rw [q1'.is]
        exact qc9 (t:=prH x) (by show (2:Int)≠4;decide) (by show (2:Int)≠5;decide) _
   rw [hno,Bool.and_false,if_neg Bool.false_ne_true]
   obtain ⟨xs,k1,k2,k3,k4⟩:=qto (rec:=rec) true l (rest (qg c) + 1) (qg c) [] _ hl (fun h=>by cases h) hp q1 (fun t s e=>by obtain ⟨rfl,_⟩:=List.cons.inj e;decide) (by rw [q1.len];simp only [List.length_append];omega)
    (fun x hx hlf=>by rw [q2];exact hn x hx hlf) fun x hx hlf d s hd hdr hdn=>ih x hx hlf d s hd (by omega) (by rw [hdn,q2])
   rw [qel,if_pos (by rw [k1];rfl),if_pos rfl,k3.want (qcb _)]
   dsimp only
   rw [if_pos rfl]
   obtain ⟨_,p1,p2⟩:=k3.cons
   rw [p1.want (qcb _)]
   dsimp only
   rw [if_pos rfl]
   obtain ⟨_,s1,s2⟩:=p1.cons
   exact ⟨xs,k1,k2,s1,s2.trans (p2.trans (k4.trans q2))⟩
end
/-! contexts and types -/
def qgw (n:N):List N:=n.kids.take (n.kids.length - 1)
def qnf (n:N):N:=n.kids.getD (n.kids.length - 1) N0
def tkQ (n:N):List T:=ctK (qgw n) ++ tkT (qnf n)
theorem qnx {n:N} (h:quW n = true):n.kind = 4∧n.text = []∧n.num = 0∧n.kids = qgw n ++ [qnf n]∧(∀ x∈qgw n,prW x = true)∧tyW (qnf n) = true:=by
 have e:((n.kids.length:Int) - 1).toNat = n.kids.length - 1:=by omega
 simp only [quW,qmt,Bool.and_eq_true,decide_eq_true_eq,e,List.all_eq_true] at h
 obtain ⟨⟨⟨⟨h1,h2,h3⟩,h4⟩,h5⟩,h6⟩:=h
 refine ⟨h1,h2,h3,?_,h5,h6⟩
 have hl:n.kids.length - 1 < n.kids.length:=by omega
 rw [qgw,qnf,← qb2i hl,List.take_of_length_le (by omega)]
theorem qckm {n:N} (h:quW n = true):Wd (quT n) (tkQ n):=fun r hr=>by
 obtain ⟨_,_,_,_,h5,h6⟩:=qnx h
 rw [quT,tkQ,List.append_assoc]
 show tokW (ctT (qgw n) ++ (ptT (qnf n) ++ r)) = _
 rw [qcc7 h5,(wdT _ h6).1 r hr,qbf2]
theorem qblj {n:N} (ht:tyW n = true):∃ t s,tkT n = t :: s∧t.kind≠0:=by
 rw [(wdT n ht).2,tkT']
 by_cases ha:n.kind≠1∧n.text = arW
 ·obtain ⟨_,t0,_⟩:=qih ht ha
  rw [if_pos ha]
  cases hb:(!decide ((n.kids.getD 0 N0).text = arW)) with
  | false=>exact ⟨_,_,rfl,by show (5:Int)≠0;decide⟩
  | true =>
    have ha0:¬ ((n.kids.getD 0 N0).kind≠1∧(n.kids.getD 0 N0).text = arW):=fun h=>by rw [decide_eq_true h.2] at hb;cases hb
    rw [cloK,if_pos rfl,(wdT _ t0).2,tkT',if_neg ha0]
    exact ⟨_,_,rfl,by unfold qjb;dsimp only;split<;>decide⟩
 ·rw [if_neg ha]
  exact ⟨_,_,rfl,by unfold qjb;dsimp only;split<;>decide⟩
theorem qb0r {n:N} (hq:quW n = true) {c:K} {r:List T} (h:Ah c (tkQ n ++ r)) (hr:NoA r) (hr':NoR r) (ha:qcw [61,62] r 0 = false) {f:Nat} (hf:rest c < f) (hd:c.nest + 2 * dp n≤201):Got c (qdq f c) n r:=by
 obtain ⟨q1,q2,q3,q4,q5,q6⟩:=qnx hq
 have hpos:=qk2 n
 rw [tkQ,List.append_assoc] at h
 have hmem:∀ x∈qgw n,x∈n.kids:=fun x hx=>List.mem_of_mem_take hx
 have hmemt:qnf n∈n.kids:=by rw [q4];simp
 obtain ⟨t,s,e1,e2⟩:=qblj q6
 have hkid:∀ x∈qgw n,dp (x.kids.getD 0 N0) + 2≤dp n∧tyW (x.kids.getD 0 N0) = true:=fun x hx=>by
  obtain ⟨_,_,_,p4,p5⟩:=qjl (q5 x hx)
  have h1:=qcx (hmem x hx)
  have h2:=qcx (qi (l:=x.kids) (i:=0) (by omega))
  exact ⟨by omega,p5⟩
 obtain ⟨xs,g1,g2,g3,g4⟩:=qbpx (rec:=qbe f) q5 h (fun _=>⟨by rw [(qw5 _ q6).2];exact ha,fun t' s' e=>by
  rw [e1,List.cons_append] at e
  obtain ⟨rfl,_⟩:=List.cons.inj e
  exact e2⟩) (by rw [e1];simp) (fun x hx hl=>by have:=(hkid x hx).1;have:=qk2 (x.kids.getD 0 N0);omega) fun x hx hl d s' hd' hdr hdn =>
   qpq f _ d _ (hkid x hx).2 hd' (qmf (by decide)) (qph (by decide)) (by omega) (by have:=(hkid x hx).1;omega)
 have hlt:rest (qt (qbe f) c).1≤rest c:=by rw [g3.len,h.len];simp
 obtain ⟨y,k1,k2,k3,k4⟩:=qpq f _ _ r q6 g3 hr hr' (by omega) (by have:=qcx hmemt;rw [g4];omega)
 unfold qdq
 rw [if_pos (by rw [g1];rfl),g1,k1]
 refine ⟨_,rfl,qfw q1.symm q3.symm q2.symm ?_,k3,k4.trans g4⟩
 rw [q4]
 show (xs ++ [y]).map qk = _
 rw [List.map_append,List.map_append,g2]
 exact congrArg (_ ++ [·]) k2
end Go.Proofs.YtlmcofjcpadmiaaGreat
