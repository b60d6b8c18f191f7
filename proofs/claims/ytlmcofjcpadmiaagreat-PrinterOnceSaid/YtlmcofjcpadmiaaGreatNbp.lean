/- Texts of this proof, joined. -/
import Derived.Test.YtlmcofjcpadmiaaGreatNbo
import Derived.Test.YtlmcofjcpadmiaaGreatNbn
set_option linter.unusedVariables false
set_option linter.unusedSimpArgs false

/- declarations and programs that are written are read as they were -/
namespace Go.Proofs.YtlmcofjcpadmiaaGreat
open Go Go.RowKit Go.V

def StD (r:List T):Prop:=StS r∧NoC r
theorem qbo6 (s:List T):StD (mkT [59] :: s):=⟨q6s s,qmf (by decide),fun t s' e=>by obtain ⟨rfl,_⟩:=List.cons.inj e;decide⟩
theorem qbev {n:N} {k:Int} (h0:n.kind = k) (hk:k = 35∨k = 36) (h2:n.kids = ahN n ++ (beN n).getD 0 N0 :: (beN n).drop 1) (h3:((ahN n).length:Int) = n.num) (h5:∀ x∈ahN n,prW x = true) (h6:tyW ((beN n).getD 0 N0) = true) (h6':k = 35->((beN n).getD 0 N0).kind = 1)
 (h7:∀ x∈(beN n).drop 1,(biW x = true∨sgW x = true)∧(enc x).wf∧x.kind = if k = 35 then 32 else 31) {c:K} {r:List T} (h:Ah c (hdK n ++ r)) (hr:StD r) (hn:c.nest + 2 * dp n≤201) (p:Int):Got3 c (qik k p c) n r:=by
 have hm0:(beN n).getD 0 N0∈n.kids:=by rw [h2];simp
 have hma:∀ x∈ahN n,x∈n.kids:=fun x hx=>by rw [h2];simp [hx]
 have hmb:∀ x∈(beN n).drop 1,x∈n.kids:=fun x hx=>by rw [h2];simp only [List.mem_append,List.mem_cons];exact .inr (.inr hx)
 have hkid:∀ x∈ahN n,dp (x.kids.getD 0 N0) + 2≤dp n∧tyW (x.kids.getD 0 N0) = true:=fun x hx=>by
  obtain ⟨_,_,_,p4,p5⟩:=qjl (h5 x hx)
  have e1:=qcx (hma x hx)
  have e2:=qcx (qi (l:=x.kids) (i:=0) (by omega))
  exact ⟨by omega,p5⟩
 rw [hdK,List.append_assoc,List.cons_append,List.append_assoc,List.cons_append] at h
 have ha:qcw [61,62] (prH n :: (atK ((beN n).getD 0 N0) ++ rsT qsw :: (semK (((beN n).drop 1).map tkB) ++ r))) 0 = false:=by
  have b1:=(qf9 (t:=prH n) ne_ ne_).2 (atK ((beN n).getD 0 N0) ++ rsT qsw :: (semK (((beN n).drop 1).map tkB) ++ r))
  rw [List.singleton_append] at b1
  have b2:Bal0 (atK ((beN n).getD 0 N0)):=qtf (qw5 _ h6) _
  rw [b1,b2.2,qcw,if_neg (by decide),if_neg (by decide),if_neg (by decide),if_neg (by decide),if_neg (by decide)]
  have e:semK (((beN n).drop 1).map tkB) ++ r = mkT [123] :: (qeo (mkT [59]) (((beN n).drop 1).map tkB) ++ mkT [125] :: r):=by simp [semK]
  rw [e,qvq (by decide) (by decide) (by decide) (qnu (qki (by decide) (by decide)) _ fun a ha=>?_) _ _ _ (by decide)]
  ·exact hr.1.2.2
  ·obtain ⟨x,hx,rfl⟩:=List.mem_map.1 ha
   exact (balE x (h7 x hx).2.1).2.1 (h7 x hx).1
 obtain ⟨vs,g1,g2,g3,g4⟩:=qbpx (rec:=qbe (rest c + 2)) h5 h (fun _=>⟨ha,fun t s e=>by obtain ⟨rfl,_⟩:=List.cons.inj e;exact ne_⟩) (by simp) (fun x hx hl=>by have:=(hkid x hx).1;have:=qx5 hl;omega) fun x hx hl d s' hd' hdr hdn =>
  qpq _ _ d _ (hkid x hx).2 hd' (qmf (by decide)) (qph (by decide)) (by omega) (by have:=(hkid x hx).1;omega)
 unfold qik qct
 rw [g1]
 dsimp only [Option.getD_some,Option.isSome_some]
 rw [if_pos rfl]
 generalize (qt (qbe (rest c + 2)) c).1 = d at g3 g4 ⊢
 unfold qyo
 obtain ⟨k1,k2⟩:=g3.kindK (k:=2) rfl
 obtain ⟨_,q1,q2⟩:=g3.cons
 have hte:=g3.text
 rw [k1,k2]
 dsimp only
 rw [if_pos rfl]
 have hdn:(qg d).nest = c.nest:=q2.trans g4
 unfold qxa
 have hno:¬ (k = 35∧(qp (qg d)).kind≠1):=fun ⟨e1,e2⟩=>by
  have v1:=h6' e1
  obtain ⟨n1,_,_⟩:=qkc h6 (fun e=>e.1 v1)
  have hkk:((beN n).getD 0 N0).kids = []:=by
   rcases n1 with ⟨_,_,h⟩ | ⟨h,_⟩
   ·exact h
   ·omega
  have hlf:qbi ((beN n).getD 0 N0) = true:=decide_eq_true hkk
  obtain ⟨l1,_,_⟩:=qqp h6 hlf
  rw [atK,hlf,cloK,if_pos rfl,l1,List.singleton_append] at q1
  have:=q1.kind
  rw [this,qjb,if_pos v1] at e2
  exact e2 rfl
 rw [if_neg hno]
 have d0:=qcx hm0
 obtain ⟨a1,a2,a3,a4⟩:=q6g h6 q1 (by rw [hdn];omega)
 have e5:qb5 (qg d) = ofO (qd8 (qg d)):=rfl
 rw [e5] at a1 a2 a3 a4
 unfold qyf
 have a1:(qd8 (qg d)).2.isSome = true:=a1
 rw [if_pos a1]
 have a2:NS ((qd8 (qg d)).2.getD N0) ((beN n).getD 0 N0):=a2
 have a3:Ah (qd8 (qg d)).1 (rsT qsw :: (semK (((beN n).drop 1).map tkB) ++ r)):=a3
 have a4:(qd8 (qg d)).1.nest = (qg d).nest:=a4
 obtain ⟨xs,j1,j2,j3,j4⟩:=qbxy h7 a3 (fun x hx=>by have:=qcx (hmb x hx);rw [a4,hdn];omega) (vs ++ [(qd8 (qg d)).2.getD N0])
 obtain ⟨j5,j6⟩:=Prod.ext_iff.1 j1
 dsimp only at j5 j6
 have hlen:vs.length = (ahN n).length:=by have:=congrArg List.length g2;simpa using this
 refine ⟨j6,qfw h0.symm (by show (vs.length:Int) = n.num;rw [hlen,h3]) hte ?_,j3,j4.trans (a4.trans hdn)⟩
 show (qc1 _ _ _).2.1.map qk = _
 rw [j5,h2]
 rw [List.map_append,List.map_append,List.map_append,g2,j2,List.append_assoc]
 exact congrArg (fun y=>_ ++ (y :: _)) a2
theorem qbbp {n:N} (hd:deW n = true) (hw:(enc n).wf) {c:K} {r:List T} (h:Ah c (tkD n ++ r)) (hr:StD r) (hn:c.nest + 2 * dp n≤201):Got3 c (qcr c) n r:=by
 have hk:∀ {x:N},x∈beN n->(enc x).wf:=fun hx=>qcf hw (List.mem_of_mem_drop hx)
 have hbind:(biW n = true∨sgW n = true)->(n.kind = 31∨n.kind = 32)->Got3 c (qcr c) n r:=fun ht h0=>by
  rw [tkD,if_pos h0] at h
  have h1:∃ s,tkB n = vaT n :: s:=by
   rw [((wdE n hw).2.1 ht).2,tkB'];split<;>exact ⟨_,rfl⟩
  obtain ⟨s,e⟩:=h1
  have h':=h
  rw [e,List.cons_append] at h'
  unfold qcr
  rw [h'.leave_it (qc9 (t:=vaT n) ne_ ne_ _)]
  dsimp only
  rw [if_neg Bool.false_ne_true,h'.leave_it (qc9 (t:=vaT n) ne_ ne_ _)]
  dsimp only
  rw [if_neg Bool.false_ne_true,h'.leave_it (qc9 (t:=vaT n) ne_ ne_ _)]
  dsimp only
  rw [if_neg Bool.false_ne_true]
  exact qsc (q36 (b:=rest c + 1) (fun m d s h1 h2 h3 h4 h5 h6=>qbgn _ m d s h1 h2 h3 h4 (by omega) h6) ht hw h hr.1 (by omega) (by omega))
 rcases qn1 hd with ⟨h0,h1⟩ | ⟨h0,h1⟩ | ⟨h0,h1,h2,h3,h4,h5,h6⟩ | ⟨h0,h1,h2,h3,h5,h6,h7⟩ | ⟨h0,h1,h2,h3,h5,h6,h7⟩
 ·exact hbind (.inl h1) (.inl h0)
 ·exact hbind (.inr h1) (.inr h0)
 ·simp only [tkD,h0,Int.reduceEq,or_self,if_false,if_true,List.cons_append] at h
  obtain ⟨_,q1,q2⟩:=h.cons
  unfold qcr
  rw [h.take (qhi _)]
  dsimp only
  rw [if_pos rfl]
  obtain ⟨g1,g2,g3,g4⟩:=qbwj h0 h2 h3 h4 h5 h6 q1 hr.2 (by rw [q2];omega) (qp c).pos
  exact ⟨g1,g2,g3,g4.trans q2⟩
 ·simp only [tkD,h0,Int.reduceEq,or_self,if_false,if_true,List.cons_append] at h
  obtain ⟨_,q1,q2⟩:=h.cons
  unfold qcr
  rw [h.leave_it (qnv rfl (by decide))]
  dsimp only
  rw [if_neg Bool.false_ne_true,h.take (qhi _)]
  dsimp only
  rw [if_pos rfl]
  obtain ⟨g1,g2,g3,g4⟩:=qbev h0 (.inl rfl) h2 h3 h5 (qub h6).2 (fun _=>(qub h6).1) (fun x hx=>⟨.inr (h7 x hx),hk (List.mem_of_mem_drop hx),(qg4 (h7 x hx)).1⟩) q1 hr (by rw [q2];omega) (qp c).pos
  exact ⟨g1,g2,g3,g4.trans q2⟩
 ·simp only [tkD,h0,Int.reduceEq,or_self,if_false,if_true,List.cons_append] at h
  obtain ⟨_,q1,q2⟩:=h.cons
  unfold qcr
  rw [h.leave_it (qnv rfl (by decide))]
  dsimp only
  rw [if_neg Bool.false_ne_true,h.leave_it (qnv rfl (by decide))]
  dsimp only
  rw [if_neg Bool.false_ne_true,h.take (qhi _)]
  dsimp only
  rw [if_pos rfl]
  obtain ⟨g1,g2,g3,g4⟩:=qbev h0 (.inr rfl) h2 h3 h5 h6 (fun e=>by cases e) (fun x hx=>⟨.inl (h7 x hx),hk (List.mem_of_mem_drop hx),(qg3 (h7 x hx)).1⟩) q1 hr (by rw [q2];omega) (qp c).pos
  exact ⟨g1,g2,g3,g4.trans q2⟩
theorem q42 {n:N} (hd:deW n = true) (hw:(enc n).wf):∃ t s,tkD n = t :: s∧t.kind≠0:=by
 rcases qn1 hd with ⟨h0,h1⟩ | ⟨h0,h1⟩ | ⟨h0,h1,h2,h3,h4,h5,h6⟩ | ⟨h0,h1,h2,h3,h5,h6,h7⟩ | ⟨h0,h1,h2,h3,h5,h6,h7⟩
 ·rw [tkD,if_pos (.inl h0),((wdE n hw).2.1 (.inl h1)).2,tkB'];split<;>exact ⟨_,_,rfl,ne_⟩
 ·rw [tkD,if_pos (.inr h0),((wdE n hw).2.1 (.inr h1)).2,tkB'];split<;>exact ⟨_,_,rfl,ne_⟩
 ·simp only [tkD,h0,Int.reduceEq,or_self,if_false,if_true];exact ⟨_,_,rfl,ne_⟩
 ·simp only [tkD,h0,Int.reduceEq,or_self,if_false,if_true];exact ⟨_,_,rfl,ne_⟩
 ·simp only [tkD,h0,Int.reduceEq,or_self,if_false,if_true];exact ⟨_,_,rfl,ne_⟩
def q1a (l:List N):List T:=(l.map fun x=>tkD x ++ [mkT [59]]).flatten
theorem qbef:∀ (l:List N) (f:Nat) (c:K) (acc:List N),(∀ x∈l,deW x = true∧(enc x).wf)->Ah c (mkT [59] :: q1a l)->l.length < f->(∀ x∈l,c.nest + 2 * dp x≤201) →
 ∃ xs,(rowF qcr qd7 f true c acc).2.2 = (acc ++ xs,true)∧xs.map qk = l.map qk∧Ah (rowF qcr qd7 f true c acc).2.1 []∧(rowF qcr qd7 f true c acc).2.1.nest = c.nest
 | l,0,_,_,_,_,hf,_=>by omega
 | [], f + 1, c, acc, _, h, _, _ => by
   obtain ⟨_,q1,q2⟩:=h.cons
   have q1:Ah (qg c) []:=q1
   have e1:qbh [59] true c = (true,qg c,true):=by rw [qbh,if_pos rfl,h.take (qcb _)]
   have e:qd7 true c = (true,qg c,false):=by
    rw [qd7,if_neg (by rw [h.kind];exact ne_),e1]
    dsimp only
    rw [(Ah.nil q1).1];rfl
   rw [rowF,e]
   dsimp only
   rw [if_neg Bool.false_ne_true]
   exact ⟨[],by simp,rfl,q1,q2⟩
 | x :: l, f + 1, c, acc, ht, h, hf, hn => by
   obtain ⟨t1,t2⟩:=ht x (by simp)
   obtain ⟨_,q1,q2⟩:=h.cons
   have q1:Ah (qg c) (tkD x ++ mkT [59] :: q1a l):=by
    rw [q1a,List.map_cons,List.flatten_cons,List.append_assoc,List.singleton_append] at q1;exact q1
   have e1:qbh [59] true c = (true,qg c,true):=by rw [qbh,if_pos rfl,h.take (qcb _)]
   have hk0:(qp (qg c)).kind≠0:=by
    obtain ⟨t,s,e1,e2⟩:=q42 t1 t2
    have q1':=q1
    rw [e1,List.cons_append] at q1'
    rw [q1'.kind];exact e2
   have e:qd7 true c = (true,qg c,true):=by
    rw [qd7,if_neg (by rw [h.kind];exact ne_),e1]
    dsimp only
    rw [decide_eq_false hk0];rfl
   obtain ⟨g1,g2,g3,g4⟩:=qbbp t1 t2 q1 (qbo6 _) (by rw [q2];exact hn x (by simp))
   rw [rowF,e]
   dsimp only
   rw [if_pos rfl,if_pos g1]
   obtain ⟨xs,k1,k2,k3,k4⟩:=qbef l f _ (acc ++ [(qcr (qg c)).2.1]) (fun z hz=>ht z (by simp [hz])) g3 (by simp at hf;omega) (fun z hz=>by rw [g4,q2];exact hn z (by simp [hz]))
   refine ⟨(qcr (qg c)).2.1 :: xs,by rw [k1];simp,?_,k3,k4.trans (g4.trans q2)⟩
   rw [List.map_cons,List.map_cons,k2];exact congrArg (· :: _) g2
theorem q9o (l:List N):l.length≤(q1a l).length:=by
 unfold q1a
 induction l with
 | nil=>exact Nat.le_refl _
 | cons x l ih=>simp only [List.map_cons,List.flatten_cons,List.length_append,List.length_cons];omega
theorem qb8t {n:N} (h0:n.kind = 37) (hb:qmt n = true) (ht:∀ x∈n.kids,deW x = true∧(enc x).wf) {c:K} (h:Ah c (q1a n.kids)) (hn:c.nest + 2 * dp n≤201):Got c (qk9 c) n []:=by
 simp only [qmt,Bool.and_eq_true,decide_eq_true_eq] at hb
 have hd:∀ x∈n.kids,c.nest + 2 * dp x≤201:=fun x hx=>by have:=qcx hx;omega
 have hres:∃ xs,(rowS qcr qd7 false c []).2.2 = (xs,true)∧xs.map qk = n.kids.map qk∧Ah (rowS qcr qd7 false c []).2.1 []∧(rowS qcr qd7 false c []).2.1.nest = c.nest:=by
  revert ht h hd
  generalize n.kids = l
  intro ht h hd
  cases l with
  | nil =>
    have h:Ah c []:=h
    have e:qd7 false c = (false,c,false):=if_pos (Ah.nil h).1
    rw [rowS,rowF,e]
    dsimp only
    rw [if_neg Bool.false_ne_true]
    exact ⟨[],rfl,rfl,h,rfl⟩
  | cons x l =>
    obtain ⟨t1,t2⟩:=ht x (by simp)
    have h:Ah c (tkD x ++ mkT [59] :: q1a l):=by
     rw [q1a,List.map_cons,List.flatten_cons,List.append_assoc,List.singleton_append] at h;exact h
    have hk0:(qp c).kind≠0:=by
     obtain ⟨t,s,e1,e2⟩:=q42 t1 t2
     have h':=h
     rw [e1,List.cons_append] at h'
     rw [h'.kind];exact e2
    have e:qd7 false c = (true,c,true):=by
     have e1:qbh [59] false c = (true,c,true):=if_neg Bool.false_ne_true
     rw [qd7,if_neg hk0,e1]
     dsimp only
     rw [decide_eq_false hk0];rfl
    obtain ⟨g1,g2,g3,g4⟩:=qbbp t1 t2 h (qbo6 _) (hd x (by simp))
    rw [rowS,rowF,e]
    dsimp only
    rw [if_pos rfl,if_pos g1]
    obtain ⟨xs,k1,k2,k3,k4⟩:=qbef l (rest c) _ ([] ++ [(qcr c).2.1]) (fun z hz=>ht z (by simp [hz])) g3 (by
     have:=q9o l
     rw [h.len];simp only [List.length_append,List.length_cons];omega) (fun z hz=>by rw [g4];exact hd z (by simp [hz]))
    refine ⟨(qcr c).2.1 :: xs,by rw [k1];simp,?_,k3,k4.trans g4⟩
    rw [List.map_cons,List.map_cons,k2];exact congrArg (· :: _) g2
 obtain ⟨xs,k1,k2,k3,k4⟩:=hres
 refine ⟨quk (rowS qcr qd7 false c []).2.2.1,rfl,qfw h0.symm hb.2.symm hb.1.symm ?_,k3,k4⟩
 show (rowS qcr qd7 false c []).2.2.1.map qk = _
 rw [k1,k2]
/-! whole texts -/
theorem qqr:∀ n,dp (qk n) = dp n∧sz (qk n) = sz n:=N.ind fun n ih=>by
 rw [qeq,qra,qra n,qg1,qg1 n]
 show dps (qms n.kids) + 1 = _∧szs (qms n.kids) + 1 = _
 rw [qf1]
 have:∀ l:List N,(∀ x∈l,dp (qk x) = dp x∧sz (qk x) = sz x)->dps (l.map qk) = dps l∧szs (l.map qk) = szs l:=fun l=>by
  induction l with
  | nil=>exact fun _=>⟨rfl,rfl⟩
  | cons x l ihl =>
    intro h
    obtain ⟨h1,h2⟩:=h x (by simp)
    obtain ⟨h3,h4⟩:=ihl fun y hy=>h y (by simp [hy])
    rw [List.map_cons,dps,dps,szs,szs,h1,h2,h3,h4]
    exact ⟨rfl,rfl⟩
 obtain ⟨h1,h2⟩:=this n.kids ih
 exact ⟨by rw [h1],by rw [h2]⟩
theorem qcj0 {a b:N} (h:NS a b):dp a = dp b∧sz a = sz b:=by
 have h:qk a = qk b:=h
 exact ⟨by rw [← (qqr a).1,h,(qqr b).1],by rw [← (qqr a).2,h,(qqr b).2]⟩
theorem qbso {a b:N} (h:NS a b):qul a b = true:=by
 have h:qk a = qk b:=h
 have key:∀ a b:N,qk a = qk b->qul a b = true:=N.ind fun a ih b h=>by
  rw [qeq,qeq,qf1,qf1] at h
  obtain ⟨h1,_,h3,h4,h5⟩:=N.mk.inj h
  rw [qf7,decide_eq_true h1,decide_eq_true h4,decide_eq_true h3,Bool.true_and,Bool.true_and,Bool.true_and]
  have:∀ l m:List N,(∀ x∈l,∀ y,qk x = qk y->qul x y = true)->l.map qk = m.map qk->qez l m = true:=fun l=>by
   induction l with
   | nil =>
     intro m _ e
     cases m with
     | nil=>rfl
     | cons _ _=>cases e
   | cons x l ihl =>
     intro m hx e
     cases m with
     | nil=>cases e
     | cons y m =>
       rw [List.map_cons,List.map_cons] at e
       obtain ⟨e1,e2⟩:=List.cons.inj e
       rw [qez,hx x (by simp) y e1,ihl m (fun z hz=>hx z (by simp [hz])) e2];rfl
  exact this _ _ ih h5
 exact key a b h
theorem qbrh {c:K} (h:Ah c []):(ql9 c).2 = 0:=by
 have hr:remT c = []:=List.map_eq_nil_iff.1 h.2
 have:¬ (c.at':Int) < c.l.length:=by
  have:=congrArg List.length hr
  simp [remT] at this;omega
 rw [qta h.1 this]
theorem qbtg {rd:K->K×Option N} {s:List UInt8} {ts:List T} {n:N} (hs:s.length≤1000000) (hk:tokW s = some ts) (hz:sz n≤1000000) (hd:dp n≤100) (h:∀ c:K,Ah c ts->c.nest = 0->Got c (rd c) n []):∃ m,q3o rd s = (m,0,0)∧NS m n∧(rd (newK (lexV s).1)).2.getD N0 = m:=by
 obtain ⟨h1,h2⟩:=qcby hs hk
 have hA:Ah (newK (lexV s).1) ts:=⟨rfl,h2⟩
 obtain ⟨x,g1,g2,g3,g4⟩:=h _ hA rfl
 obtain ⟨e1,e2⟩:=qcj0 g2
 rw [q3o,if_pos h1,qyz,if_pos (qbrh g3),g1]
 dsimp only [Option.getD_some]
 have e3:=q2k x (by omega)
 rw [if_neg (by omega)]
 exact ⟨x,rfl,g2,rfl⟩

theorem qgq (n:N):(qk n).kids = n.kids.map qk:=by rw [qeq,← qf1];rfl
theorem qov (n:N):(qk n).kind = n.kind:=by rw [qeq];rfl
theorem q4d (n:N):(qk n).num = n.num:=by rw [qeq];rfl
theorem qjk (n:N):(qk n).text = n.text:=by rw [qeq];rfl
theorem st_0:qk N0 = N0:=rfl
theorem qi8 (l:List N) (i:Nat):(l.map qk).getD i N0 = qk (l.getD i N0):=qsf qk N0 st_0 l i
theorem qsq (n:N):qbi (qk n) = qbi n:=by
 unfold qbi
 rw [qgq]
 cases n.kids<;>simp
theorem qbks {α:Type} {f:N->α} {l:List N} (ih:∀ x∈l,f (qk x) = f x) (i:Nat):f (qk (l.getD i N0)) = f (l.getD i N0):=by
 by_cases h:i < l.length
 ·exact ih _ (qi h)
 ·rw [List.getD_eq_getElem?_getD,List.getElem?_eq_none (by omega)];rfl
theorem qnh {α:Type} {f:N->α} {l:List N} (ih:∀ x∈l,f (qk x) = f x):(l.map qk).map f = l.map f:=by
 rw [List.map_map]
 exact List.map_congr_left fun x hx=>ih x hx
theorem q9x:∀ n,ptT (qk n) = ptT n:=N.ind fun n ih=>by
 rw [qkf (qk n),qkf n,qgq,qov,qjk,qi8,qi8,qjk,qbks ih,qbks ih,qnh (f:=atT) fun x hx=>by rw [atT,qsq,ih x hx];rfl]
theorem qbfs (n:N):atT (qk n) = atT n:=by rw [atT,qsq,q9x];rfl
theorem qcdk:∀ n,ptP (qk n) = ptP n:=N.ind fun n ih=>by
 rw [qo7 (qk n),qo7 n,qgq,qov,qjk,q4d,qnh (f:=atP) fun x hx=>by rw [atP,qsq,ih x hx];rfl]
theorem qcd6 (n:N):prT (qk n) = prT n:=by rw [prT,qjk,qgq,qi8,qbfs];rfl
theorem qbqc (l:List N):ctT (l.map qk) = ctT l:=by
 unfold ctT
 rw [qnh fun x _=>qcd6 x,List.length_map]
 cases l<;>simp
theorem qcj9 (n:N):quT (qk n) = quT n:=by
 rw [quT,qgq,List.length_map,← List.map_take,qbqc,qi8,q9x];rfl
theorem qcjh (n:N):sgT (qk n) = sgT n:=by rw [sgT,qjk,qgq,qi8,qcj9];rfl
theorem qcgk:∀ n,pba (qk n) = pba n:=N.ind fun n ih=>by
 have hE:ptE (qk n) = ptE n:=by
  rw [q1h (qk n),q1h n,qgq,qov,qjk,q4d,qi8,qi8,qi8,List.length_map,qsq,qsq,qov,← List.map_take,← List.map_drop]
  have e:∀ i,ptE (qk (n.kids.getD i N0)) = ptE (n.kids.getD i N0):=qbks fun x hx=>congrArg (·.1) (ih x hx)
  rw [qi8,e,e,e,e]
  rw [qnh (f:=ptB) fun x hx=>congrArg (·.2.1) (ih x (List.mem_of_mem_take hx)),qnh (f:=ptL) fun x hx=>congrArg (·.2.2) (ih x (List.mem_of_mem_drop hx))]
 have e:∀ i,ptE (qk (n.kids.getD i N0)) = ptE (n.kids.getD i N0):=qbks fun x hx=>congrArg (·.1) (ih x hx)
 have hB:ptB (qk n) = ptB n:=by
  rw [qmb (qk n),qmb n,qgq,qov,qjk,qi8,List.length_map,qcjh,e]
 have hL:ptL (qk n) = ptL n:=by
  rw [qti (qk n),qti n,qgq,qi8,qi8,List.length_map,e,qcdk]
 exact Prod.ext hE (Prod.ext hB hL)
theorem qbqf (n:N):ptB (qk n) = ptB n:=congrArg (·.2.1) (qcgk n)
theorem qbp7 (n:N):ahN (qk n) = (ahN n).map qk:=by rw [ahN,qgq,q4d,← List.map_take];rfl
theorem qbo3 (n:N):beN (qk n) = (beN n).map qk:=by rw [beN,qgq,q4d,← List.map_drop];rfl
theorem qcjl (l:List N):brB (l.map qk) = brB l:=by rw [brB,qnh fun x _=>qbqf x];rfl
theorem qcje (n:N):hdT (qk n) = hdT n:=by
 rw [hdT,qbp7,qbo3,qbqc,qjk,qi8,qbfs,← List.map_drop,qcjl];rfl
theorem qcfs (n:N):ptD (qk n) = ptD n:=by
 rw [ptD,qov,qbqf,qjk,qbp7,qbo3,qcje,qnh fun x _=>qbfs x,qnh fun x _=>q9x x];rfl
theorem qbpi (n:N):ptG (qk n) = ptG n:=by
 rw [ptG,qgq,qnh (f:=fun x=>ptD x ++ [59,10]) fun x _=>by rw [qcfs]];rfl
theorem qcg3 {a b:N} (h:NS a b):ptG a = ptG b:=by rw [← qbpi a,← qbpi b,show qk a = qk b from h]

mutual
def tw:N->Nat
 | .mk _ _ _ t l=>t.length + tws l
def tws:List N->Nat
 | []=>0
 | x :: r=>tw x + tws r
end
theorem qck0 (n:N):tw n = n.text.length + tws n.kids:=by cases n;rw [tw];rfl
theorem qff (k p m:Int) (t:List UInt8) (l:List N):tw (.mk k p m t l) = t.length + tws l:=by rw [tw]
theorem qbgj (l m:List N):tws (l ++ m) = tws l + tws m:=by
 induction l with
 | nil=>simp [tws]
 | cons x r ih=>rw [List.cons_append,tws,tws,ih];omega
theorem qfk (l:List N) (x:N):tws (l ++ [x]) = tws l + tw x:=by rw [qbgj,tws,tws];rfl
theorem qfs:tws [] = 0:=by rw [tws]
theorem qbl0 (x:N):tws [x] = tw x:=by rw [tws,tws];rfl
theorem qb7r (x y:N):tws [x,y] = tw x + tw y:=by rw [tws,tws,tws];rfl
theorem tw_0:tw N0 = 0:=by rw [N0,qff,qfs];rfl
theorem qex:tw ((none:Option N).getD N0) = 0:=tw_0
theorem qfl:tws ((none:Option (List N)).getD []) = 0:=qfs
def twT:List T->Nat
 | []=>0
 | t :: r=>t.text.length + twT r
theorem q56:∀ (l:List T) (k:Nat),twT (l.drop k)≤twT l
 | l,0=>by rw [List.drop_zero];exact Nat.le_refl _
 | [],_ + 1=>Nat.le_refl _
 | t :: r,k + 1=>by rw [List.drop_succ_cons,twT];have:=q56 r k;omega
def wl (c:K):Nat:=twT (c.l.drop c.at')
theorem wm {c c':K} (h:Mon c c'):wl c'≤wl c:=by
 have h1:=h.2.1
 have h2:=h.2.2.2.1
 unfold wl
 unfold rest at h1
 rw [h2] at h1 ⊢
 by_cases hk:c.at'≤c'.at'
 ·rw [show c'.at' = c.at' + (c'.at' - c.at') by omega,← List.drop_drop]
  exact q56 _ _
 ·rw [List.drop_eq_nil_of_le (by omega)]
  exact Nat.zero_le _
theorem qpe (c:K):(qp c).text.length + wl (qg c)≤wl c:=by
 unfold qp qg
 split
 ·split
  ·rename_i h1
   unfold wl
   rw [qbk5 h1,twT]
   exact Nat.le_refl _
  ·exact Nat.le_of_eq (Nat.zero_add _)
 ·exact Nat.le_of_eq (Nat.zero_add _)
theorem q0j (c:K) (k:Int):(qen c k).text.length + wl (kindK c k).1≤wl c:=by
 unfold qen
 split
 ·rename_i h
  rw [(qj9 h).1]
  exact qpe c
 ·have:=wm (qbp c k)
  show 0 + _≤_
  omega
theorem qcif {c:K} {x:List UInt8} (h:(qf c x).2 = true):x.length + wl (qf c x).1≤wl c:=by
 unfold qf at h ⊢
 split at h
 ·rename_i h1
  rw [if_pos h1]
  have h2:=qpe c
  simp only [isK,qcg,Bool.and_eq_true,decide_eq_true_eq] at h1
  rw [h1.2.2] at h2
  exact h2
 ·cases h
theorem qbpk (c:K) (k:Int) (l:List N):tw (qgr c k l) = (qp c).text.length + tws l:=by rw [qgr,qff]
theorem q4e (c:K) (k:Int):tw (qgr c k []) + wl (qg c)≤wl c:=by
 have:=qpe c
 rw [qbpk,qfs];omega
theorem qgg {c c':K} (m:Mon c c'):tw ((none:Option N).getD N0) + wl c'≤wl c:=by rw [qex,Nat.zero_add];exact wm m
section
variable {rec:K->K×Option N} (hm:∀ c,Mon c (rec c).1) (ih:∀ c,tw ((rec c).2.getD N0) + wl (rec c).1≤wl c)
include hm ih
theorem qle (c:K):tw ((qbg rec c).2.getD N0) + wl (qbg rec c).1≤wl c:=by
 unfold qbg
 split
 ·exact q4e c 1
 ·split
  ·exact q4e c 2
  ·split
   ·split
    ·have h0:=ih (qg (qb c).1)
     have h1:=wm ((qo c).trans (qbj _))
     split
     ·have h2:=wm ((qe (rec (qg (qb c).1)).1 [41]).trans (qba _))
      dsimp only
      split
      ·omega
      ·rw [qex];omega
     ·exact qgg (((qo c).trans (qbj _)).trans ((hm _).trans (qba _)))
    ·exact qgg (qo c)
   ·exact qgg (qc3 c 5)
theorem q05:∀ (f:Nat) (c:K) (acc:List N),tws ((qcq rec f c acc).2.getD []) + wl (qcq rec f c acc).1≤wl c + tws acc
 | 0,c,acc=>by rw [qcq,qfl];dsimp only;omega
 | f + 1, c, acc => by
   rw [qcq]
   split
   ·split
    ·have h1:=q05 f (qbg rec c).1 (acc ++ [(qbg rec c).2.getD N0])
     have h2:=qle hm ih c
     rw [qfk] at h1
     omega
    ·have:=wm (qdr hm c)
     rw [qfl];dsimp only;omega
   ·dsimp only [Option.getD_some];omega
theorem qbjj (c:K):tw ((qbq rec c).2.getD N0) + wl (qbq rec c).1≤wl c:=by
 unfold qbq
 split
 ·have h1:=q05 hm ih (rest c + 1) (qg c) []
  have h2:=qpe c
  rw [qfs] at h1
  dsimp only
  cases hq:(qcq rec (rest c + 1) (qg c) []).2 with
  | none =>
    have:=wm ((qbj c).trans (qhs hm (rest c + 1) (qg c) []))
    rw [Option.map_none,qex];omega
  | some l =>
    rw [hq,Option.getD_some] at h1
    rw [Option.map_some,Option.getD_some,qbpk]
    omega
 ·exact qle hm ih c
theorem qbbv (c:K):tw ((qz rec c).2.getD N0) + wl (qz rec c).1≤wl c:=by
 unfold qz
 have h1:=q0j c 2
 split
 ·have h2:=qle hm ih (kindK c 2).1
  have h3:=wm (qdr hm (kindK c 2).1)
  dsimp only
  cases hq:(qbg rec (kindK c 2).1).2 with
  | none=>rw [Option.map_none,qex];omega
  | some l =>
    rw [hq,Option.getD_some] at h2
    rw [Option.map_some,Option.getD_some,qp0,qff,qbl0]
    omega
 ·exact qgg (qbp c 2)
theorem q6y (many:Bool):∀ (f:Nat) (c:K) (acc:List N),tws ((qdc rec many f c acc).2.getD []) + wl (qdc rec many f c acc).1≤wl c + tws acc
 | 0,c,acc=>by rw [qdc,qfl];dsimp only;omega
 | f + 1, c, acc => by
   rw [qdc]
   have h1:=qbbv hm ih c
   have h2:=wm (qm (qz rec c).1 [44])
   have h3:=q6y many f (qf (qz rec c).1 [44]).1 (acc ++ [(qz rec c).2.getD N0])
   rw [qfk] at h3
   split
   ·split
    ·omega
    ·dsimp only [Option.getD_some];rw [qfk];omega
   ·rw [qfl];dsimp only;omega
theorem qbmv (c:K):tws ((qek rec c).2.getD []) + wl (qek rec c).1≤wl c:=by
 unfold qek
 have h1:=wm (qm c [40])
 split
 ·dsimp only [Option.getD_some];rw [qfs];omega
 ·have:=q6y hm ih (qf c [40]).2 (rest (qf c [40]).1 + 1) (qf c [40]).1 []
  rw [qfs] at this;omega
omit hm ih in
theorem qbme (many:Bool) (r:K×Option (List N)):tws ((qel many r).2.getD []) + wl (qel many r).1≤tws (r.2.getD []) + wl r.1:=by
 unfold qel
 have h1:=wm (qe r.1 [41])
 have h2:=wm (qe (qh r.1 [41]).1 [61,62])
 have h3:=wm (qe r.1 [61,62])
 split
 ·split
  ·split
   ·dsimp only
    split
    ·omega
    ·rw [qfl];omega
   ·rw [qfl];dsimp only;omega
  ·dsimp only
   split
   ·omega
   ·rw [qfl];omega
 ·rw [qfl];dsimp only;omega
theorem qu9 (c:K):tws ((qt rec c).2.getD []) + wl (qt rec c).1≤wl c:=by
 unfold qt
 split
 ·have:=qbmv hm ih c
  have:=qbme (qf c [40]).2 (qek rec c)
  omega
 ·dsimp only
  split
  ·rw [qfl];omega
  ·rw [Option.getD_some,qfs];omega
end
theorem qmm:∀ (f:Nat) (c:K),tw ((qbe f c).2.getD N0) + wl (qbe f c).1≤wl c
 | 0,c=>qgg (Mon.refl c)
 | f + 1, c => by
   rw [qbe]
   have h0:=wm (qo c)
   have hr:=qbjj (qbv f) (qmm f) (qb c).1
   have hmr:=wm (qlq (qbv f) (qb c).1)
   split
   ·split
    ·split
     ·rename_i ht
      have h1:=qcif ht
      have h2:=qmm f (qf (qbq (qbe f) (qb c).1).1 [45,62]).1
      have h3:=wm (qbv f (qf (qbq (qbe f) (qb c).1).1 [45,62]).1)
      have h4:=wm (qba (qbe f (qf (qbq (qbe f) (qb c).1).1 [45,62]).1).1)
      dsimp only at h1 ⊢
      simp only [List.length_cons,List.length_nil] at h1
      cases hq:(qbe f (qf (qbq (qbe f) (qb c).1).1 [45,62]).1).2 with
      | none=>rw [Option.map_none,qex];omega
      | some y =>
        rw [hq,Option.getD_some] at h2
        rw [Option.map_some,Option.getD_some,qiz,qff,qb7r]
        simp only [List.length_cons,List.length_nil]
        omega
     ·have h4:=wm (qba (qbq (qbe f) (qb c).1).1)
      dsimp only;omega
    ·exact qgg ((qo c).trans ((qlq (qbv f) _).trans (qba _)))
   ·exact qgg (qo c)
theorem qbec (f:Nat) (c:K):tw ((qdq f c).2.getD N0) + wl (qdq f c).1≤wl c:=by
 unfold qdq
 have hp:=qu9 (qbv f) (qmm f) c
 have ht:=qmm f (qt (qbe f) c).1
 have ht2:=wm (qbv f (qt (qbe f) c).1)
 split
 ·dsimp only
  cases hq:(qbe f (qt (qbe f) c).1).2 with
  | none=>rw [Option.map_none,qex];omega
  | some y =>
    rw [hq,Option.getD_some] at ht
    rw [Option.map_some,Option.getD_some,qp3,qff,qfk]
    simp only [List.length_nil]
    omega
 ·exact qgg (qfd (qbv f) c)
theorem qb32 {c:K}:tw ((qhc c).getD N0) + wl (qg c)≤wl c:=by
 unfold qhc
 have h:=qpe c
 split
 ·rw [Option.getD_some,qff,qfs];omega
 ·split
  ·rw [Option.getD_some,qff,qfs];omega
  ·split
   ·rw [Option.getD_some,qff,qfs];simp only [List.length_nil];omega
   ·split
    ·rw [Option.getD_some,qff,qfs];simp only [List.length_nil];omega
    ·rw [qex];omega
section
variable {rec:K->K×Option N} (hm:∀ c,Mon c (rec c).1) (ih:∀ c,tw ((rec c).2.getD N0) + wl (rec c).1≤wl c)
include hm ih
omit hm in
theorem q1l (c:K):tw ((qbk rec c).2.getD N0) + wl (qbk rec c).1≤wl c:=by
 unfold qbk
 split
 ·exact qb32
 ·split
  ·split
   ·have h0:=ih (qg (qb c).1)
    have h1:=wm ((qo c).trans (qbj _))
    have h2:=wm (qe (rec (qg (qb c).1)).1 [41])
    have h3:=wm (qba (qh (rec (qg (qb c).1)).1 [41]).1)
    split
    ·split
     ·dsimp only;omega
     ·rw [qex];dsimp only;omega
    ·rw [qex];dsimp only;omega
   ·exact qgg (qo c)
  ·exact qgg (qc3 c 5)
omit hm in
theorem qbfz:∀ (f:Nat) (c:K) (acc:List N),tws ((qew rec f c acc).2.getD []) + wl (qew rec f c acc).1≤wl c + tws acc
 | 0,c,acc=>by rw [qew,qfl];dsimp only;omega
 | f + 1, c, acc => by
   rw [qew]
   have h2:=q1l ih c
   split
   ·split
    ·have h1:=qbfz f (qbk rec c).1 (acc ++ [(qbk rec c).2.getD N0])
     rw [qfk] at h1
     omega
    ·rw [qfl];dsimp only;omega
   ·dsimp only [Option.getD_some];omega
end
theorem q3w:∀ (f:Nat) (c:K),tw ((qb6 f c).2.getD N0) + wl (qb6 f c).1≤wl c
 | 0,c=>qgg (Mon.refl c)
 | f + 1, c => by
   rw [qb6]
   have h0:=wm (qo c)
   split
   ·split
    ·have h1:=qbfz (q3w f) (rest (qb c).1 + 1) (qg (qb c).1) []
     have h2:=qpe (qb c).1
     have h3:=wm (qba (qew (qb6 f) (rest (qb c).1 + 1) (qg (qb c).1) []).1)
     rw [qfs] at h1
     dsimp only
     cases hq:(qew (qb6 f) (rest (qb c).1 + 1) (qg (qb c).1) []).2 with
     | none=>rw [Option.map_none,qex];omega
     | some l =>
       rw [hq,Option.getD_some] at h1
       rw [Option.map_some,Option.getD_some,qff];omega
    ·have h1:=q1l (q3w f) (qb c).1
     have h3:=wm (qba (qbk (qb6 f) (qb c).1).1)
     dsimp only;omega
   ·exact qgg (qo c)
theorem qccl {c:K}:tw ((qgm c).getD N0) + wl (qg c)≤wl c:=by
 unfold qgm
 have h:=qpe c
 split
 ·exact q4e c _
 ·split
  ·exact q4e c _
  ·split
   ·rw [Option.getD_some,qff,qfs];simp only [List.length_nil];omega
   ·rw [qex];omega

theorem qt9 (p:Int):tw (posN p) = 0:=by rw [posN,qff,qfs];rfl
section
variable {rec:K->K×Option N} (hm:∀ c,Mon c (rec c).1) (ih:∀ c,tw ((rec c).2.getD N0) + wl (rec c).1≤wl c)
include hm ih
omit hm in
theorem qzm (c:K):tw ((qu rec c).2.getD N0) + wl (qu rec c).1≤wl c:=by
 unfold qu
 split
 ·exact qccl
 ·split
  ·split
   ·have h0:=ih (qg (qb c).1)
    have h1:=wm ((qo c).trans (qbj _))
    have h2:=wm (qe (rec (qg (qb c).1)).1 [41])
    have h3:=wm (qba (qh (rec (qg (qb c).1)).1 [41]).1)
    split
    ·split
     ·dsimp only;omega
     ·rw [qex];dsimp only;omega
    ·rw [qex];dsimp only;omega
   ·exact qgg (qo c)
  ·exact qgg (qc3 c 5)
omit hm ih in
theorem qbpt (n k:N):tw (appN n k) = tw n + tw k:=by rw [appN,qff,qb7r];simp
omit hm in
theorem q11:∀ (f:Nat) (c:K) (n:N),tw (qdm rec f c n).2.1 + wl (qdm rec f c n).1≤wl c + tw n
 | 0,c,n=>by rw [qdm];dsimp only;omega
 | f + 1, c, n => by
   rw [qdm]
   have h2:=qzm ih c
   split
   ·split
    ·have h1:=q11 f (qu rec c).1 (appN n ((qu rec c).2.getD N0))
     rw [qbpt] at h1
     omega
    ·dsimp only;rw [qbpt];omega
   ·dsimp only;omega
omit hm in
theorem qboe (c:K):tw (qe1 rec c).2.1 + wl (qe1 rec c).1≤wl c:=by
 unfold qe1
 have h1:=qzm ih c
 split
 ·have:=q11 ih (rest (qu rec c).1 + 1) (qu rec c).1 ((qu rec c).2.getD N0)
  omega
 ·exact h1
omit hm in
theorem qs4 (w:List UInt8):∀ (f:Nat) (c:K),tw (qb0 rec w f c).2.1 + wl (qb0 rec w f c).1≤wl c
 | 0,c=>by rw [qb0];dsimp only;rw [tw_0];omega
 | f + 1, c => by
   rw [qb0]
   split
   ·have h1:=qs4 w f (qg c)
    have h2:=qpe c
    dsimp only
    rw [lamN,qff,qbl0];omega
   ·have h1:=wm (qe c w)
    split
    ·have:=ih (qh c w).1
     unfold ofO;dsimp only;omega
    ·dsimp only;rw [tw_0];omega
omit hm in
theorem qyr (c:K):tw ((qbm rec c).2.getD N0) + wl (qbm rec c).1≤wl c:=by
 unfold qbm
 have hk:=q0j c 1
 split
 ·split
  ·have h1:=qbec (rest (qf (kindK c 1).1 [58,58]).1 + 2) (qf (kindK c 1).1 [58,58]).1
   have h2:=wm (qm (kindK c 1).1 [58,58])
   dsimp only
   cases hq:(qdq (rest (qf (kindK c 1).1 [58,58]).1 + 2) (qf (kindK c 1).1 [58,58]).1).2 with
   | none=>rw [Option.map_none,qex];omega
   | some y =>
     rw [hq,Option.getD_some] at h1
     rw [Option.map_some,Option.getD_some,qm9,qff,qbl0];omega
  ·have h1:=qs4 ih [61] (rest (kindK c 1).1 + 1) (kindK c 1).1
   dsimp only
   unfold toO
   dsimp only
   split
   ·rw [Option.map_some,Option.getD_some,qm9,qff,qbl0];omega
   ·rw [Option.map_none,qex];omega
 ·exact qgg (qbp c 1)
omit hm ih in
theorem qbar {rd:K->R3} (hr:∀ c,tw (rd c).2.1 + wl (rd c).1≤wl c):∀ (f:Nat) (c:K) (acc:List N),tws (qbn rd f c acc).2.1 + wl (qbn rd f c acc).1≤wl c + tws acc
 | 0,c,acc=>by rw [qbn];dsimp only;rw [qfs];omega
 | f + 1, c, acc => by
   rw [qbn]
   have h1:=hr c
   have h2:=wm (qm (rd c).1 [59])
   have h3:=wm (qe (qf (rd c).1 [59]).1 [125])
   split
   ·split
    ·have h4:=qbar hr f (qf (rd c).1 [59]).1 (acc ++ [(rd c).2.1])
     rw [qfk] at h4
     omega
    ·dsimp only;rw [qfk];omega
   ·dsimp only;rw [qfs];omega
omit hm ih in
theorem qboz {rd:K->R3} (hr:∀ c,tw (rd c).2.1 + wl (rd c).1≤wl c) (c:K):tws (q8 rd c).2.1 + wl (q8 rd c).1≤wl c:=by
 unfold q8
 have h1:=wm (qe c [123])
 split
 ·have:=qbar hr (rest (qh c [123]).1 + 1) (qh c [123]).1 []
  rw [qfs] at this;omega
 ·dsimp only;rw [qfs];omega
omit hm in
theorem qbmr (p:Int) (c:K):tw (qgo rec p c).2.1 + wl (qgo rec p c).1≤wl c:=by
 unfold qgo letB letC
 have hl:=qboz (rd:=fun c=>ofO (qbm rec c)) (fun c=>qyr ih c) c
 have h1:=wm (qe (q8 (fun c=>ofO (qbm rec c)) c).1 [105,110])
 split
 ·split
  ·have h2:=ih (qh (q8 (fun c=>ofO (qbm rec c)) c).1 [105,110]).1
   dsimp only;rw [qff,qfk];simp only [List.length_nil];omega
  ·dsimp only;rw [qt9];omega
 ·dsimp only;rw [qt9];omega
omit hm in
theorem qboc (c:K):tw (qdv rec c).2.1 + wl (qdv rec c).1≤wl c:=by
 unfold qdv altB altC
 have hp:=q3w (rest c + 2) c
 have h1:=wm (qe (qb6 (rest c + 2) c).1 [45,62])
 split
 ·split
  ·have h2:=ih (qh (qb6 (rest c + 2) c).1 [45,62]).1
   dsimp only;rw [altN,qff,qb7r];simp only [List.length_nil];omega
  ·dsimp only;omega
 ·dsimp only;omega
omit hm in
theorem qbcy (p:Int) (c:K):tw (qeh rec p c).2.1 + wl (qeh rec p c).1≤wl c:=by
 unfold qeh qy1 q02
 have hx:=ih c
 have h1:=wm (qe (rec c).1 [111,102])
 split
 ·split
  ·have h2:=qboz (rd:=qdv rec) (fun c=>qboc ih c) (qh (rec c).1 [111,102]).1
   dsimp only;rw [qff,tws];simp only [List.length_nil];omega
  ·dsimp only;rw [qt9];omega
 ·dsimp only;rw [qt9];omega
omit hm in
theorem q6u (p:Int):∀ (l:List (List UInt8)) (c:K) (acc:List N),tw (qda rec p l c acc).2.1 + wl (qda rec p l c acc).1≤wl c + tws acc
 | [],c,acc=>by rw [qda];dsimp only;rw [qff];simp only [List.length_nil];omega
 | w :: r, c, acc => by
   rw [qda]
   have hmw:Mon c (ifsK c w).1:=by
    unfold ifsK
    split
    ·exact Mon.refl c
    ·exact qe c w
   have h1:=wm hmw
   have h2:=ih (ifsK c w).1
   split
   ·split
    ·have h3:=q6u p r (rec (ifsK c w).1).1 (acc ++ [(rec (ifsK c w).1).2.getD N0])
     rw [qfk] at h3
     omega
    ·dsimp only;rw [qff];simp only [List.length_nil];omega
   ·dsimp only;rw [qff];simp only [List.length_nil];omega
omit hm in
theorem qbap (c:K):tw (qc8 rec c).2.1 + wl (qc8 rec c).1≤wl c:=by
 unfold qc8
 have h1:=wm (qm c [92])
 have h2:=wm (qm c [108,101,116])
 have h3:=wm (qm c [99,97,115,101])
 have h4:=wm (qm c [105,102])
 split
 ·split
  ·have:=qs4 ih [45,62] (rest (qf c [92]).1 + 1) (qf c [92]).1
   omega
  ·have:=wm (qc3 (qf c [92]).1 5)
   dsimp only;rw [qt9];omega
 ·split
  ·have:=qbmr ih (qp c).pos (qf c [108,101,116]).1
   omega
  ·split
   ·have:=qbcy ih (qp c).pos (qf c [99,97,115,101]).1
    omega
   ·split
    ·have:=q6u ih (qp c).pos ifsW (qf c [105,102]).1 []
     rw [qfs] at this;omega
    ·exact qboe ih c
end
theorem qbbs:∀ (f:Nat) (c:K),tw ((qfo f c).2.getD N0) + wl (qfo f c).1≤wl c
 | 0,c=>qgg (Mon.refl c)
 | f + 1, c => by
   rw [qfo]
   have h0:=wm (qo c)
   split
   ·have h1:=qbap (qbbs f) (qb c).1
    have h2:=wm (qba (qc8 (qfo f) (qb c).1).1)
    dsimp only
    unfold toO
    dsimp only
    split
    ·rw [Option.getD_some];omega
    ·rw [qex];omega
   ·exact qgg (qo c)
/-! declarations -/
theorem qbbr (c:K):tw (qb5 c).2.1 + wl (qb5 c).1≤wl c:=qle (qbv _) (qmm _) c
theorem qbo1 {one:K->R3} {more:MF} (hmm:MonM more) (hr:∀ c,tw (one c).2.1 + wl (one c).1≤wl c):∀ (f:Nat) (b:Bool) (c:K) (acc:List N),tws (rowF one more f b c acc).2.2.1 + wl (rowF one more f b c acc).2.1≤wl c + tws acc
 | 0,b,c,acc=>by rw [rowF];dsimp only;rw [qfs];omega
 | f + 1, b, c, acc => by
   rw [rowF]
   have h1:=wm (hmm b c)
   have h2:=hr (more b c).2.1
   split
   ·split
    ·have h3:=qbo1 hmm hr f (more b c).1 (one (more b c).2.1).1 (acc ++ [(one (more b c).2.1).2.1])
     rw [qfk] at h3
     omega
    ·dsimp only;omega
   ·dsimp only;omega
theorem qzf {one:K->R3} {more:MF} (hmm:MonM more) (hr:∀ c,tw (one c).2.1 + wl (one c).1≤wl c) (b:Bool) (c:K) (acc:List N):tws (rowS one more b c acc).2.2.1 + wl (rowS one more b c acc).2.1≤wl c + tws acc:=qbo1 hmm hr _ b c acc
theorem qckl (c:K):tw (conK c).2.1 + wl (conK c).1≤wl c:=by
 unfold conK
 have h1:=q0j c 2
 split
 ·have h2:=qzf (monA begT) qbbr false (kindK c 2).1 []
  rw [qfs] at h2
  dsimp only;rw [conN,qff];omega
 ·dsimp only;rw [tw_0];omega
theorem qcdi (p:Int) (c:K):tw (qi0 p c).2.1 + wl (qi0 p c).1≤wl c:=by
 unfold qi0 qy2 qxw
 have h1:=q0j c 2
 have h2:=qzf (monA qdj) qbbr false (kindK c 2).1 []
 have h3:=wm (qe (rowS qb5 (qdl qdj) false (kindK c 2).1 []).2.1 [61])
 rw [qfs] at h2
 split
 ·split
  ·have h4:=qzf (monF [124]) qckl false (qh (rowS qb5 (qdl qdj) false (kindK c 2).1 []).2.1 [61]).1 (rowS qb5 (qdl qdj) false (kindK c 2).1 []).2.2.1
   dsimp only;rw [qp2,qff];omega
  ·dsimp only;rw [qt9];omega
 ·dsimp only;rw [qt9];omega
theorem qbe0 (c:K):tw ((qgj c).2.getD N0) + wl (qgj c).1≤wl c:=qyr (qbbs _) c
theorem qbjc (kd:Int) (c:K):tw (qv kd c).2.1 + wl (qv kd c).1≤wl c:=by
 unfold qv
 have h1:=qbe0 c
 split
 ·have:=wm (qc3 (qgj c).1 5)
  dsimp only;omega
 ·exact h1
theorem qccu (kd:Int) (c:K) (out:List N):tws (qc1 kd c out).2.1 + wl (qc1 kd c out).1≤wl c + tws out:=by
 unfold qc1
 have h1:=wm (qe c [119,104,101,114,101])
 have h2:=wm (qe (qh c [119,104,101,114,101]).1 [123])
 split
 ·split
  ·have h3:=qzf monB (qbjc kd) false (qh (qh c [119,104,101,114,101]).1 [123]).1 out
   have h4:=wm (qe (rowS (qv kd) qdy false (qh (qh c [119,104,101,114,101]).1 [123]).1 out).2.1 [125])
   unfold qmv
   split
   ·dsimp only;omega
   ·omega
  ·dsimp only;omega
 ·dsimp only;omega
theorem qbpv (k p:Int) (c:K):tw (qik k p c).2.1 + wl (qik k p c).1≤wl c:=by
 unfold qik
 have hv:tws ((qct c).2.getD []) + wl (qct c).1≤wl c:=qu9 (qbv _) (qmm _) c
 split
 ·unfold qyo
  have hk:=q0j (qct c).1 2
  split
  ·unfold qxa
   split
   ·have:=wm (qc3 (kindK (qct c).1 2).1 5)
    dsimp only;rw [qi1,qff,qfs];omega
   ·unfold qyf
    have ha:tw ((qd8 (kindK (qct c).1 2).1).2.getD N0) + wl (qd8 (kindK (qct c).1 2).1).1≤wl (kindK (qct c).1 2).1:=qle (qbv _) (qmm _) _
    split
    ·have hb:=qccu (if k = 35 then 32 else 31) (qd8 (kindK (qct c).1 2).1).1 ((qct c).2.getD [] ++ [(qd8 (kindK (qct c).1 2).1).2.getD N0])
     rw [qfk] at hb
     dsimp only;rw [qi1,qff];omega
    ·dsimp only;rw [qi1,qff,qfs];omega
  ·dsimp only;rw [q09,qff,qfs];simp only [List.length_nil];omega
 ·dsimp only;rw [q09,qff,qfs];simp only [List.length_nil];omega
theorem qceq (c:K):tw (qcr c).2.1 + wl (qcr c).1≤wl c:=by
 unfold qcr
 have h1:=wm (qm c qoz)
 have h2:=wm (qm c qi2)
 have h3:=wm (qm c qoj)
 split
 ·have:=qcdi (qp c).pos (qf c qoz).1
  omega
 ·split
  ·have:=qbpv 35 (qp c).pos (qf c qi2).1
   omega
  ·split
   ·have:=qbpv 36 (qp c).pos (qf c qoj).1
    omega
   ·exact qbe0 c
theorem qcjt (c:K):tw ((qk9 c).2.getD N0)≤wl c:=by
 have h:=qzf monP qceq false c []
 rw [qfs] at h
 unfold qk9
 rw [Option.getD_some,quk,qff]
 simp only [List.length_nil];omega
end Go.Proofs.YtlmcofjcpadmiaaGreat
