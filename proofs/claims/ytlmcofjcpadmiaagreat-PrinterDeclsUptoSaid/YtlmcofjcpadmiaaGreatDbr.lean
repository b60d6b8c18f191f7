/- A text of this proof. -/
import Derived.Test.YtlmcofjcpadmiaaGreatDbq
import Derived.Test.YtlmcofjcpadmiaaGreatDbn
set_option linter.unusedVariables false
set_option linter.unusedSimpArgs false

/- declarations and programs that are written are read as they were -/
namespace Go.Proofs.YtlmcofjcpadmiaaGreat
open Go Go.RowKit Go.V

def StD (r:List T):Prop:=StS r∧NoC r
theorem qbih (s:List T):StD (mkT [59] :: s):=⟨qzo s,qjx (by decide),fun t s' e=>by obtain ⟨rfl,_⟩:=List.cons.inj e;decide⟩
theorem qbno:StD []:=⟨qbtn,(fun t s h=>by cases h),(fun t s h=>by cases h)⟩
theorem q4l {n:N} {k:Int} (h0:n.kind = k) (hk:k = 35∨k = 36) (h2:n.kids = ahN n ++ (beN n).getD 0 N0 :: (beN n).drop 1) (h3:((ahN n).length:Int) = n.num) (h5:∀ x∈ahN n,prW x = true) (h6:tyW ((beN n).getD 0 N0) = true) (h6':k = 35->((beN n).getD 0 N0).kind = 1)
 (h7:∀ x∈(beN n).drop 1,(biW x = true∨sgW x = true)∧(enc x).wf∧x.kind = if k = 35 then 32 else 31) {c:K} {r:List T} (h:Ah c (hdK n ++ r)) (hr:StD r) (hn:c.nest + 2 * dp n≤201) (p:Int):Got3 c (qm3 k p c) n r:=by
 have hm0:(beN n).getD 0 N0∈n.kids:=by rw [h2];simp
 have hma:∀ x∈ahN n,x∈n.kids:=fun x hx=>by rw [h2];simp [hx]
 have hmb:∀ x∈(beN n).drop 1,x∈n.kids:=fun x hx=>by rw [h2];simp only [List.mem_append,List.mem_cons];exact .inr (.inr hx)
 have hkid:∀ x∈ahN n,dp (x.kids.getD 0 N0) + 2≤dp n∧tyW (x.kids.getD 0 N0) = true:=fun x hx=>by
  obtain ⟨_,_,_,p4,p5⟩:=qh5 (h5 x hx)
  have e1:=qcm (hma x hx)
  have e2:=qcm (qf (l:=x.kids) (i:=0) (by omega))
  exact ⟨by omega,p5⟩
 rw [hdK,List.append_assoc,List.cons_append,List.append_assoc,List.cons_append] at h
 have ha:qck [61,62] (prH n :: (atK ((beN n).getD 0 N0) ++ rsT qo5 :: (semK (((beN n).drop 1).map tkB) ++ r))) 0 = false:=by
  have b1:=(qe5 (t:=prH n) ne_ ne_).2 (atK ((beN n).getD 0 N0) ++ rsT qo5 :: (semK (((beN n).drop 1).map tkB) ++ r))
  rw [List.singleton_append] at b1
  have b2:Bal0 (atK ((beN n).getD 0 N0)):=qp6 (qs3 _ h6) _
  rw [b1,b2.2,qck,if_neg (by decide),if_neg (by decide),if_neg (by decide),if_neg (by decide),if_neg (by decide)]
  have e:semK (((beN n).drop 1).map tkB) ++ r = mkT [123] :: (qdu (mkT [59]) (((beN n).drop 1).map tkB) ++ mkT [125] :: r):=by simp [semK]
  rw [e,qrr (by decide) (by decide) (by decide) (qli (qib (by decide) (by decide)) _ fun a ha=>?_) _ _ _ (by decide)]
  ·exact hr.1.2.2
  ·obtain ⟨x,hx,rfl⟩:=List.mem_map.1 ha
   exact (balE x (h7 x hx).2.1).2.1 (h7 x hx).1
 obtain ⟨vs,g1,g2,g3,g4⟩:=qbhz (rec:=qbn (rest c + 2)) h5 h (fun _=>⟨ha,fun t s e=>by obtain ⟨rfl,_⟩:=List.cons.inj e;exact ne_⟩) (by simp) (fun x hx hl=>by have:=(hkid x hx).1;have:=qth hl;omega) fun x hx hl d s' hd' hdr hdn =>
  qlo _ _ d _ (hkid x hx).2 hd' (qjx (by decide)) (qmg (by decide)) (by omega) (by have:=(hkid x hx).1;omega)
 unfold qm3 qge
 rw [g1]
 dsimp only [Option.getD_some,Option.isSome_some]
 rw [if_pos rfl]
 generalize (qw (qbn (rest c + 2)) c).1 = d at g3 g4 ⊢
 unfold q60
 obtain ⟨k1,k2⟩:=g3.kindK (k:=2) rfl
 obtain ⟨_,q1,q2⟩:=g3.cons
 have hte:=g3.text
 rw [k1,k2]
 dsimp only
 rw [if_pos rfl]
 have hdn:(qi d).nest = c.nest:=q2.trans g4
 unfold q2t
 have hno:¬ (k = 35∧(qs (qi d)).kind≠1):=fun ⟨e1,e2⟩=>by
  have v1:=h6' e1
  obtain ⟨n1,_,_⟩:=qho h6 (fun e=>e.1 v1)
  have hkk:((beN n).getD 0 N0).kids = []:=by
   rcases n1 with ⟨_,_,h⟩ | ⟨h,_⟩
   ·exact h
   ·omega
  have hlf:qba ((beN n).getD 0 N0) = true:=decide_eq_true hkk
  obtain ⟨l1,_,_⟩:=qm8 h6 hlf
  rw [atK,hlf,cloK,if_pos rfl,l1,List.singleton_append] at q1
  have:=q1.kind
  rw [this,qg8,if_pos v1] at e2
  exact e2 rfl
 rw [if_neg hno]
 have d0:=qcm hm0
 obtain ⟨a1,a2,a3,a4⟩:=qzp h6 q1 (by rw [hdn];omega)
 have e5:qed (qi d) = ofO (qhs (qi d)):=rfl
 rw [e5] at a1 a2 a3 a4
 unfold q5n
 have a1:(qhs (qi d)).2.isSome = true:=a1
 rw [if_pos a1]
 have a2:NS ((qhs (qi d)).2.getD N0) ((beN n).getD 0 N0):=a2
 have a3:Ah (qhs (qi d)).1 (rsT qo5 :: (semK (((beN n).drop 1).map tkB) ++ r)):=a3
 have a4:(qhs (qi d)).1.nest = (qi d).nest:=a4
 obtain ⟨xs,j1,j2,j3,j4⟩:=qbwv h7 a3 (fun x hx=>by have:=qcm (hmb x hx);rw [a4,hdn];omega) (vs ++ [(qhs (qi d)).2.getD N0])
 obtain ⟨j5,j6⟩:=Prod.ext_iff.1 j1
 dsimp only at j5 j6
 have hlen:vs.length = (ahN n).length:=by have:=congrArg List.length g2;simpa using this
 refine ⟨j6,qeq h0.symm (by show (vs.length:Int) = n.num;rw [hlen,h3]) hte ?_,j3,j4.trans (a4.trans hdn)⟩
 show (qdb _ _ _).2.1.map qo = _
 rw [j5,h2]
 rw [List.map_append,List.map_append,List.map_append,g2,j2,List.append_assoc]
 exact congrArg (fun y=>_ ++ (y :: _)) a2
theorem qw3 {n:N} (hd:deW n = true) (hw:(enc n).wf) {c:K} {r:List T} (h:Ah c (tkD n ++ r)) (hr:StD r) (hn:c.nest + 2 * dp n≤201):Got3 c (qdg c) n r:=by
 have hk:∀ {x:N},x∈beN n->(enc x).wf:=fun hx=>qb2 hw (List.mem_of_mem_drop hx)
 have hbind:(biW n = true∨sgW n = true)->(n.kind = 31∨n.kind = 32)->Got3 c (qdg c) n r:=fun ht h0=>by
  rw [tkD,if_pos h0] at h
  have h1:∃ s,tkB n = vaT n :: s:=by
   rw [((wdE n hw).2.1 ht).2,tkB'];split<;>exact ⟨_,rfl⟩
  obtain ⟨s,e⟩:=h1
  have h':=h
  rw [e,List.cons_append] at h'
  unfold qdg
  rw [h'.leave_it (qcy (t:=vaT n) ne_ ne_ _)]
  dsimp only
  rw [if_neg Bool.false_ne_true,h'.leave_it (qcy (t:=vaT n) ne_ ne_ _)]
  dsimp only
  rw [if_neg Bool.false_ne_true,h'.leave_it (qcy (t:=vaT n) ne_ ne_ _)]
  dsimp only
  rw [if_neg Bool.false_ne_true]
  exact qpg (qx5 (b:=rest c + 1) (fun m d s h1 h2 h3 h4 h5 h6=>qyp _ m d s h1 h2 h3 h4 (by omega) h6) ht hw h hr.1 (by omega) (by omega))
 rcases qkx hd with ⟨h0,h1⟩ | ⟨h0,h1⟩ | ⟨h0,h1,h2,h3,h4,h5,h6⟩ | ⟨h0,h1,h2,h3,h5,h6,h7⟩ | ⟨h0,h1,h2,h3,h5,h6,h7⟩
 ·exact hbind (.inl h1) (.inl h0)
 ·exact hbind (.inr h1) (.inr h0)
 ·simp only [tkD,h0,Int.reduceEq,or_self,if_false,if_true,List.cons_append] at h
  obtain ⟨_,q1,q2⟩:=h.cons
  unfold qdg
  rw [h.take (qf8 _)]
  dsimp only
  rw [if_pos rfl]
  obtain ⟨g1,g2,g3,g4⟩:=qbqo h0 h2 h3 h4 h5 h6 q1 hr.2 (by rw [q2];omega) (qs c).pos
  exact ⟨g1,g2,g3,g4.trans q2⟩
 ·simp only [tkD,h0,Int.reduceEq,or_self,if_false,if_true,List.cons_append] at h
  obtain ⟨_,q1,q2⟩:=h.cons
  unfold qdg
  rw [h.leave_it (qkt rfl (by decide))]
  dsimp only
  rw [if_neg Bool.false_ne_true,h.take (qf8 _)]
  dsimp only
  rw [if_pos rfl]
  obtain ⟨g1,g2,g3,g4⟩:=q4l h0 (.inl rfl) h2 h3 h5 (qql h6).2 (fun _=>(qql h6).1) (fun x hx=>⟨.inr (h7 x hx),hk (List.mem_of_mem_drop hx),(qfs (h7 x hx)).1⟩) q1 hr (by rw [q2];omega) (qs c).pos
  exact ⟨g1,g2,g3,g4.trans q2⟩
 ·simp only [tkD,h0,Int.reduceEq,or_self,if_false,if_true,List.cons_append] at h
  obtain ⟨_,q1,q2⟩:=h.cons
  unfold qdg
  rw [h.leave_it (qkt rfl (by decide))]
  dsimp only
  rw [if_neg Bool.false_ne_true,h.leave_it (qkt rfl (by decide))]
  dsimp only
  rw [if_neg Bool.false_ne_true,h.take (qf8 _)]
  dsimp only
  rw [if_pos rfl]
  obtain ⟨g1,g2,g3,g4⟩:=q4l h0 (.inr rfl) h2 h3 h5 h6 (fun e=>by cases e) (fun x hx=>⟨.inl (h7 x hx),hk (List.mem_of_mem_drop hx),(qfu (h7 x hx)).1⟩) q1 hr (by rw [q2];omega) (qs c).pos
  exact ⟨g1,g2,g3,g4.trans q2⟩
theorem qzq {n:N} (hd:deW n = true) (hw:(enc n).wf):∃ t s,tkD n = t :: s∧t.kind≠0:=by
 rcases qkx hd with ⟨h0,h1⟩ | ⟨h0,h1⟩ | ⟨h0,h1,h2,h3,h4,h5,h6⟩ | ⟨h0,h1,h2,h3,h5,h6,h7⟩ | ⟨h0,h1,h2,h3,h5,h6,h7⟩
 ·rw [tkD,if_pos (.inl h0),((wdE n hw).2.1 (.inl h1)).2,tkB'];split<;>exact ⟨_,_,rfl,ne_⟩
 ·rw [tkD,if_pos (.inr h0),((wdE n hw).2.1 (.inr h1)).2,tkB'];split<;>exact ⟨_,_,rfl,ne_⟩
 ·simp only [tkD,h0,Int.reduceEq,or_self,if_false,if_true];exact ⟨_,_,rfl,ne_⟩
 ·simp only [tkD,h0,Int.reduceEq,or_self,if_false,if_true];exact ⟨_,_,rfl,ne_⟩
 ·simp only [tkD,h0,Int.reduceEq,or_self,if_false,if_true];exact ⟨_,_,rfl,ne_⟩
def qwa (l:List N):List T:=(l.map fun x=>tkD x ++ [mkT [59]]).flatten
theorem q6l:∀ (l:List N) (f:Nat) (c:K) (acc:List N),(∀ x∈l,deW x = true∧(enc x).wf)->Ah c (mkT [59] :: qwa l)->l.length < f->(∀ x∈l,c.nest + 2 * dp x≤201) →
 ∃ xs,(rowF qdg qfl f true c acc).2.2 = (acc ++ xs,true)∧xs.map qo = l.map qo∧Ah (rowF qdg qfl f true c acc).2.1 []∧(rowF qdg qfl f true c acc).2.1.nest = c.nest
 | l,0,_,_,_,_,hf,_=>by omega
 | [], f + 1, c, acc, _, h, _, _ => by
   obtain ⟨_,q1,q2⟩:=h.cons
   have q1:Ah (qi c) []:=q1
   have e1:qbo [59] true c = (true,qi c,true):=by rw [qbo,if_pos rfl,h.take (qbx _)]
   have e:qfl true c = (true,qi c,false):=by
    rw [qfl,if_neg (by rw [h.kind];exact ne_),e1]
    dsimp only
    rw [(Ah.nil q1).1];rfl
   rw [rowF,e]
   dsimp only
   rw [if_neg Bool.false_ne_true]
   exact ⟨[],by simp,rfl,q1,q2⟩
 | x :: l, f + 1, c, acc, ht, h, hf, hn => by
   obtain ⟨t1,t2⟩:=ht x (by simp)
   obtain ⟨_,q1,q2⟩:=h.cons
   have q1:Ah (qi c) (tkD x ++ mkT [59] :: qwa l):=by
    rw [qwa,List.map_cons,List.flatten_cons,List.append_assoc,List.singleton_append] at q1;exact q1
   have e1:qbo [59] true c = (true,qi c,true):=by rw [qbo,if_pos rfl,h.take (qbx _)]
   have hk0:(qs (qi c)).kind≠0:=by
    obtain ⟨t,s,e1,e2⟩:=qzq t1 t2
    have q1':=q1
    rw [e1,List.cons_append] at q1'
    rw [q1'.kind];exact e2
   have e:qfl true c = (true,qi c,true):=by
    rw [qfl,if_neg (by rw [h.kind];exact ne_),e1]
    dsimp only
    rw [decide_eq_false hk0];rfl
   obtain ⟨g1,g2,g3,g4⟩:=qw3 t1 t2 q1 (qbih _) (by rw [q2];exact hn x (by simp))
   rw [rowF,e]
   dsimp only
   rw [if_pos rfl,if_pos g1]
   obtain ⟨xs,k1,k2,k3,k4⟩:=q6l l f _ (acc ++ [(qdg (qi c)).2.1]) (fun z hz=>ht z (by simp [hz])) g3 (by simp at hf;omega) (fun z hz=>by rw [g4,q2];exact hn z (by simp [hz]))
   refine ⟨(qdg (qi c)).2.1 :: xs,by rw [k1];simp,?_,k3,k4.trans (g4.trans q2)⟩
   rw [List.map_cons,List.map_cons,k2];exact congrArg (· :: _) g2
theorem q9i (l:List N):l.length≤(qwa l).length:=by
 unfold qwa
 induction l with
 | nil=>exact Nat.le_refl _
 | cons x l ih=>simp only [List.map_cons,List.flatten_cons,List.length_append,List.length_cons];omega
theorem qbvj {n:N} (h0:n.kind = 37) (hb:qlp n = true) (ht:∀ x∈n.kids,deW x = true∧(enc x).wf) {c:K} (h:Ah c (qwa n.kids)) (hn:c.nest + 2 * dp n≤201):Got c (qs0 c) n []:=by
 simp only [qlp,Bool.and_eq_true,decide_eq_true_eq] at hb
 have hd:∀ x∈n.kids,c.nest + 2 * dp x≤201:=fun x hx=>by have:=qcm hx;omega
 have hres:∃ xs,(rowS qdg qfl false c []).2.2 = (xs,true)∧xs.map qo = n.kids.map qo∧Ah (rowS qdg qfl false c []).2.1 []∧(rowS qdg qfl false c []).2.1.nest = c.nest:=by
  revert ht h hd
  generalize n.kids = l
  intro ht h hd
  cases l with
  | nil =>
    have h:Ah c []:=h
    have e:qfl false c = (false,c,false):=if_pos (Ah.nil h).1
    rw [rowS,rowF,e]
    dsimp only
    rw [if_neg Bool.false_ne_true]
    exact ⟨[],rfl,rfl,h,rfl⟩
  | cons x l =>
    obtain ⟨t1,t2⟩:=ht x (by simp)
    have h:Ah c (tkD x ++ mkT [59] :: qwa l):=by
     rw [qwa,List.map_cons,List.flatten_cons,List.append_assoc,List.singleton_append] at h;exact h
    have hk0:(qs c).kind≠0:=by
     obtain ⟨t,s,e1,e2⟩:=qzq t1 t2
     have h':=h
     rw [e1,List.cons_append] at h'
     rw [h'.kind];exact e2
    have e:qfl false c = (true,c,true):=by
     have e1:qbo [59] false c = (true,c,true):=if_neg Bool.false_ne_true
     rw [qfl,if_neg hk0,e1]
     dsimp only
     rw [decide_eq_false hk0];rfl
    obtain ⟨g1,g2,g3,g4⟩:=qw3 t1 t2 h (qbih _) (hd x (by simp))
    rw [rowS,rowF,e]
    dsimp only
    rw [if_pos rfl,if_pos g1]
    obtain ⟨xs,k1,k2,k3,k4⟩:=q6l l (rest c) _ ([] ++ [(qdg c).2.1]) (fun z hz=>ht z (by simp [hz])) g3 (by
     have:=q9i l
     rw [h.len];simp only [List.length_append,List.length_cons];omega) (fun z hz=>by rw [g4];exact hd z (by simp [hz]))
    refine ⟨(qdg c).2.1 :: xs,by rw [k1];simp,?_,k3,k4.trans g4⟩
    rw [List.map_cons,List.map_cons,k2];exact congrArg (· :: _) g2
 obtain ⟨xs,k1,k2,k3,k4⟩:=hres
 refine ⟨q1q (rowS qdg qfl false c []).2.2.1,rfl,qeq h0.symm hb.2.symm hb.1.symm ?_,k3,k4⟩
 show (rowS qdg qfl false c []).2.2.1.map qo = _
 rw [k1,k2]
/-! whole texts -/
theorem qnb:∀ n,dp (qo n) = dp n∧sz (qo n) = sz n:=N.ind fun n ih=>by
 rw [qgh,qks,qks n,qeh,qeh n]
 show dps (qkj n.kids) + 1 = _∧szs (qkj n.kids) + 1 = _
 rw [qgg]
 have:∀ l:List N,(∀ x∈l,dp (qo x) = dp x∧sz (qo x) = sz x)->dps (l.map qo) = dps l∧szs (l.map qo) = szs l:=fun l=>by
  induction l with
  | nil=>exact fun _=>⟨rfl,rfl⟩
  | cons x l ihl =>
    intro h
    obtain ⟨h1,h2⟩:=h x (by simp)
    obtain ⟨h3,h4⟩:=ihl fun y hy=>h y (by simp [hy])
    rw [List.map_cons,dps,dps,szs,szs,h1,h2,h3,h4]
    exact ⟨rfl,rfl⟩
 obtain ⟨h1,h2⟩:=this n.kids ih
 exact ⟨by rw [h1],by rw [h2]⟩
theorem qb96 {a b:N} (h:NS a b):dp a = dp b∧sz a = sz b:=by
 have h:qo a = qo b:=h
 exact ⟨by rw [← (qnb a).1,h,(qnb b).1],by rw [← (qnb a).2,h,(qnb b).2]⟩
theorem qp5 {a b:N} (h:NS a b):qmy a b = true:=by
 have h:qo a = qo b:=h
 have key:∀ a b:N,qo a = qo b->qmy a b = true:=N.ind fun a ih b h=>by
  rw [qgh,qgh,qgg,qgg] at h
  obtain ⟨h1,_,h3,h4,h5⟩:=N.mk.inj h
  rw [qjn,decide_eq_true h1,decide_eq_true h4,decide_eq_true h3,Bool.true_and,Bool.true_and,Bool.true_and]
  have:∀ l m:List N,(∀ x∈l,∀ y,qo x = qo y->qmy x y = true)->l.map qo = m.map qo->qem l m = true:=fun l=>by
   induction l with
   | nil =>
     intro m _ e
     cases m with
     | nil=>rfl
     | cons _ _=>cases e
   | cons x l ihl =>
     intro m hx e
     cases m with
     | nil=>cases e
     | cons y m =>
       rw [List.map_cons,List.map_cons] at e
       obtain ⟨e1,e2⟩:=List.cons.inj e
       rw [qem,hx x (by simp) y e1,ihl m (fun z hz=>hx z (by simp [hz])) e2];rfl
  exact this _ _ ih h5
 exact key a b h
theorem qbtm {c:K} (h:Ah c []):(qj7 c).2 = 0:=by
 have hr:remT c = []:=List.map_eq_nil_iff.1 h.2
 have:¬ (c.at':Int) < c.l.length:=by
  have:=congrArg List.length hr
  simp [remT] at this;omega
 rw [qvi h.1 this]
theorem qn7 {rd:K->K×Option N} {s:List UInt8} {ts:List T} {n:N} (hs:s.length≤1000000) (hk:tokW s = some ts) (hz:sz n≤1000000) (hd:dp n≤100) (h:∀ c:K,Ah c ts->c.nest = 0->Got c (rd c) n []):∃ m,qjt rd s = (m,0,0)∧NS m n∧(rd (newK (lexV s).1)).2.getD N0 = m:=by
 obtain ⟨h1,h2⟩:=qb14 hs hk
 have hA:Ah (newK (lexV s).1) ts:=⟨rfl,h2⟩
 obtain ⟨x,g1,g2,g3,g4⟩:=h _ hA rfl
 obtain ⟨e1,e2⟩:=qb96 g2
 rw [qjt,if_pos h1,qqz,if_pos (qbtm g3),g1]
 dsimp only [Option.getD_some]
 have e3:=qn5 x (by omega)
 rw [if_neg (by omega)]
 exact ⟨x,rfl,g2,rfl⟩
end Go.Proofs.YtlmcofjcpadmiaaGreat
