/- A text of this proof. -/
import Derived.Test.YtlmcofjcpadmiaaGreatDbh
set_option linter.unusedVariables false
set_option linter.unusedSimpArgs false

/- declarations that are written are read as they were -/
namespace Go.Proofs.YtlmcofjcpadmiaaGreat
open Go Go.RowKit Go.V

theorem qzp {n:N} (ht:tyW n = true) {c:K} {r:List T} (h:Ah c (atK n ++ r)) (hn:c.nest + 2 * dp n≤200):Got3 c (qed c) n r:=by
 refine qpg (qzw ht h (fun hl=>by have:=qth hl;omega) fun hl d hd hdn=>qlo _ n d _ ht hd (qjx (by decide)) (qmg (by decide)) ?_ (by omega))
 have:rest d < rest c:=by rw [hd.len,h.len,atK,hl,cloK,if_neg Bool.false_ne_true];simp
 omega
theorem qxi {p:K->Bool}:∀ (l:List N) (f:Nat) (b:Bool) (c:K) (acc:List N) (r:List T),(∀ x∈l,tyW x = true)->Ah c ((l.map atK).flatten ++ r)->(∀ x∈l,∀ d s,Ah d (atK x ++ s)->p d = true)->(∀ d,Ah d r->p d = false)->l.length < f->(∀ x∈l,c.nest + 2 * dp x≤200) →
 ∃ xs,(rowF qed (qgi p) f b c acc).2.2 = (acc ++ xs,true)∧xs.map qo = l.map qo∧Ah (rowF qed (qgi p) f b c acc).2.1 r∧(rowF qed (qgi p) f b c acc).2.1.nest = c.nest
 | l,0,_,_,_,_,_,_,_,_,hf,_=>by omega
 | [], f + 1, b, c, acc, r, _, h, _, hp, _, _ => by
   have hb:p c = false:=hp c h
   have e:qgi p b c = (b,c,p c):=rfl
   rw [rowF,e,hb]
   dsimp only
   rw [if_neg Bool.false_ne_true]
   exact ⟨[],by simp,rfl,h,rfl⟩
 | x :: l, f + 1, b, c, acc, r, ht, h, hp1, hp0, hf, hn => by
   rw [List.map_cons,List.flatten_cons,List.append_assoc] at h
   have hb:p c = true:=hp1 x (by simp) c _ h
   have e:qgi p b c = (b,c,p c):=rfl
   obtain ⟨g1,g2,g3,g4⟩:=qzp (ht x (by simp)) h (hn x (by simp))
   rw [rowF,e,hb]
   dsimp only
   rw [if_pos rfl,if_pos g1]
   obtain ⟨xs,k1,k2,k3,k4⟩:=qxi l f b _ (acc ++ [(qed c).2.1]) r (fun z hz=>ht z (by simp [hz])) g3 (fun z hz=>hp1 z (by simp [hz])) hp0 (by simp at hf;omega) (fun z hz=>by rw [g4];exact hn z (by simp [hz]))
   refine ⟨(qed c).2.1 :: xs,by rw [k1];simp,?_,k3,k4.trans g4⟩
   rw [List.map_cons,List.map_cons,k2];exact congrArg (· :: _) g2
theorem qber {x:N} (ht:tyW x = true) {d:K} {s:List T} (h:Ah d (atK x ++ s)):begT d = true:=by
 obtain ⟨t,u,e1,e2⟩:=qnc ht
 rw [e1,List.cons_append] at h
 unfold begT
 rw [h.kind,h.is]
 rcases e2 with e | e | e<;>simp [e]
theorem qbxk {d:K} {r:List T} (h:Ah d r) (hr:NoA r):begT d = false:=by
 unfold begT
 cases r with
 | nil=>obtain ⟨e1,e2⟩:=Ah.nil h;rw [e1,e2];rfl
 | cons t s =>
   obtain ⟨e1,e2,e3⟩:=hr t s rfl
   rw [h.kind,h.is,e3,decide_eq_false e1,decide_eq_false e2];rfl
theorem qzl {l:List N} (h:∀ x∈l,tyW x = true):l.length≤(l.map atK).flatten.length:=by
 induction l with
 | nil=>exact Nat.le_refl _
 | cons x l ihl =>
   obtain ⟨t,s,e1,_⟩:=qnc (h x (by simp))
   have:=ihl fun y hy=>h y (by simp [hy])
   simp only [List.map_cons,List.flatten_cons,List.length_append,List.length_cons,e1]
   omega
theorem qbh2 {n:N} (hc:cnW n = true) {c:K} {r:List T} (h:Ah c (tkC n ++ r)) (hr:NoA r) (hn:c.nest + 2 * dp n≤202):Got3 c (conK c) n r:=by
 obtain ⟨p1,p2,p3,p4⟩:=qng hc
 rw [tkC,List.cons_append] at h
 obtain ⟨k1,k2⟩:=h.kindK (k:=2) rfl
 obtain ⟨_,q1,q2⟩:=h.cons
 have hte:=h.text
 unfold conK
 rw [k1,k2]
 dsimp only
 rw [if_pos rfl]
 obtain ⟨xs,g1,g2,g3,g4⟩:=qxi (p:=begT) n.kids (rest (qi c) + 1) false (qi c) [] r p4 q1 (fun x hx d s hd=>qber (p4 x hx) hd) (fun d hd=>qbxk hd hr) (by have:=qzl p4;rw [q1.len];simp only [List.length_append];omega) (fun x hx=>by have:=qcm hx;rw [q2];omega)
 obtain ⟨g5,g6⟩:=Prod.ext_iff.1 g1
 dsimp only at g5 g6
 rw [List.nil_append] at g5
 refine ⟨g6,qeq p1.symm p2.symm hte ?_,g3,g4.trans q2⟩
 show (rowS qed (qgi begT) false (qi c) []).2.2.1.map qo = _
 rw [show (rowS qed (qgi begT) false (qi c) []).2.2.1 = xs from g5,g2]
theorem qlv (t:T) (a:List T):∀ l:List (List T),qdu t (a :: l) = a ++ (l.map (t :: ·)).flatten
 | []=>by simp [qdu]
 | b :: l=>by rw [qdu,qlv t b l];simp
def NoC (r:List T):Prop:=NoA r∧∀ t s,r = t :: s->qce t [124] = false
theorem q7i:∀ (l:List N) (f:Nat) (c:K) (acc:List N) (r:List T),(∀ x∈l,cnW x = true)->Ah c ((l.map fun x=>mkT [124] :: tkC x).flatten ++ r)->NoC r->l.length < f->(∀ x∈l,c.nest + 2 * dp x≤202) →
 ∃ xs,(rowF conK (qbo [124]) f true c acc).2.2 = (acc ++ xs,true)∧xs.map qo = l.map qo∧Ah (rowF conK (qbo [124]) f true c acc).2.1 r∧(rowF conK (qbo [124]) f true c acc).2.1.nest = c.nest
 | l,0,_,_,_,_,_,_,hf,_=>by omega
 | [], f + 1, c, acc, r, _, h, hr, _, _ => by
   have hno:qn c [124] = (c,false):=by
    cases r with
    | nil=>exact qoe ((Ah.nil h).2 _)
    | cons t s=>exact Ah.leave_it h (hr.2 t s rfl)
   have e:qbo [124] true c = (true,c,false):=by rw [qbo,if_pos rfl,hno]
   rw [rowF,e]
   dsimp only
   rw [if_neg Bool.false_ne_true]
   exact ⟨[],by simp,rfl,h,rfl⟩
 | x :: l, f + 1, c, acc, r, ht, h, hr, hf, hn => by
   rw [List.map_cons,List.flatten_cons,List.append_assoc,List.cons_append] at h
   have e:qbo [124] true c = (true,qi c,true):=by rw [qbo,if_pos rfl,h.take (qbx _)]
   obtain ⟨_,q1,q2⟩:=h.cons
   have hA:NoA ((l.map fun x=>mkT [124] :: tkC x).flatten ++ r):=by
    cases l with
    | nil=>exact hr.1
    | cons y l=>exact qjx (by decide)
   obtain ⟨g1,g2,g3,g4⟩:=qbh2 (ht x (by simp)) q1 hA (by rw [q2];exact hn x (by simp))
   rw [rowF,e]
   dsimp only
   rw [if_pos rfl,if_pos g1]
   obtain ⟨xs,k1,k2,k3,k4⟩:=q7i l f _ (acc ++ [(conK (qi c)).2.1]) r (fun z hz=>ht z (by simp [hz])) g3 hr (by simp at hf;omega) (fun z hz=>by rw [g4,q2];exact hn z (by simp [hz]))
   refine ⟨(conK (qi c)).2.1 :: xs,by rw [k1];simp,?_,k3,k4.trans (g4.trans q2)⟩
   rw [List.map_cons,List.map_cons,k2];exact congrArg (· :: _) g2
theorem qbaa (l:List N):l.length≤((l.map fun x=>mkT [124] :: tkC x).flatten).length:=by
 induction l with
 | nil=>exact Nat.le_refl _
 | cons x l ih=>simp only [List.map_cons,List.flatten_cons,List.length_append,List.length_cons];omega
theorem qbqo {n:N} (h0:n.kind = 33) (h2:n.kids = ahN n ++ beN n) (h3:((ahN n).length:Int) = n.num) (h4:beN n≠[]) (h5:∀ x∈ahN n,vaW x = true) (h6:∀ x∈beN n,cnW x = true) {c:K} {r:List T}
 (h:Ah c (prH n :: (((ahN n).map atK).flatten ++ mkT [61] :: qdu (mkT [124]) ((beN n).map tkC)) ++ r)) (hr:NoC r) (hn:c.nest + 2 * dp n≤202) (p:Int):Got3 c (qo7 p c) n r:=by
 rw [List.cons_append,List.append_assoc,List.cons_append] at h
 obtain ⟨k1,k2⟩:=h.kindK (k:=2) rfl
 obtain ⟨_,q1,q2⟩:=h.cons
 have hte:=h.text
 have hma:∀ x∈ahN n,x∈n.kids:=fun x hx=>List.mem_of_mem_take hx
 have hmb:∀ x∈beN n,x∈n.kids:=fun x hx=>List.mem_of_mem_drop hx
 have hty:∀ x∈ahN n,tyW x = true:=fun x hx=>(qql (h5 x hx)).2
 unfold qo7
 rw [k1,k2]
 dsimp only
 rw [if_pos rfl]
 obtain ⟨xs,g1,g2,g3,g4⟩:=qxi (p:=qig) (ahN n) (rest (qi c) + 1) false (qi c) [] _ hty q1 (fun x hx d s hd=>by
  obtain ⟨v1,v2⟩:=qql (h5 x hx)
  obtain ⟨n1,_,_⟩:=qho v2 (fun e=>e.1 v1)
  have hk:x.kids = []:=by
   rcases n1 with ⟨_,_,h⟩ | ⟨h,_⟩
   ·exact h
   ·omega
  have hlf:qba x = true:=decide_eq_true hk
  obtain ⟨e1,_,_⟩:=qm8 v2 hlf
  rw [atK,hlf,cloK,if_pos rfl,e1,List.singleton_append] at hd
  have:=hd.kind
  rw [qig,this,qg8,if_pos v1];rfl) (fun d hd=>by rw [qig,hd.kind];rfl) (by have:=qzl hty;rw [q1.len];simp only [List.length_append];omega) (fun x hx=>by have:=qcm (hma x hx);rw [q2];omega)
 obtain ⟨g5,g6⟩:=Prod.ext_iff.1 g1
 dsimp only at g5 g6
 rw [List.nil_append] at g5
 have g3:Ah (rowS qed (qgi qig) false (qi c) []).2.1 (mkT [61] :: (qdu (mkT [124]) ((beN n).map tkC) ++ r)):=g3
 have g4:(rowS qed (qgi qig) false (qi c) []).2.1.nest = (qi c).nest:=g4
 have g5:(rowS qed (qgi qig) false (qi c) []).2.2.1 = xs:=g5
 unfold q9p
 rw [g3.want (qbx _),g5]
 unfold q1d
 rw [if_pos rfl]
 dsimp only
 obtain ⟨_,q3,q4⟩:=g3.cons
 obtain ⟨b0,bl,hb⟩:∃ b0 bl,beN n = b0 :: bl:=by
  cases hq:beN n with
  | nil=>exact absurd hq h4
  | cons a l=>exact ⟨a,l,rfl⟩
 rw [hb,List.map_cons,qlv,List.map_map,List.append_assoc] at q3
 have q3:Ah (qi (rowS qed (qgi qig) false (qi c) []).2.1) (tkC b0 ++ ((bl.map fun x=>mkT [124] :: tkC x).flatten ++ r)):=q3
 have hA:NoA ((bl.map fun x=>mkT [124] :: tkC x).flatten ++ r):=by
  cases bl with
  | nil=>exact hr.1
  | cons y l=>exact qjx (by decide)
 generalize qi (rowS qed (qgi qig) false (qi c) []).2.1 = d at q3 q4 ⊢
 have hdn:d.nest = c.nest:=q4.trans (g4.trans q2)
 obtain ⟨j1,j2,j3,j4⟩:=qbh2 (h6 b0 (by rw [hb];simp)) q3 hA (by have:=qcm (hmb b0 (by rw [hb];simp));omega)
 have e:rowS conK (qbo [124]) false d xs = rowF conK (qbo [124]) (rest d) true (conK d).1 (xs ++ [(conK d).2.1]):=by
  have e1:qbo [124] false d = (true,d,true):=if_neg Bool.false_ne_true
  rw [rowS,rowF,e1]
  dsimp only
  rw [if_pos rfl,if_pos j1]
 rw [e]
 obtain ⟨ys,i1,i2,i3,i4⟩:=q7i bl (rest d) (conK d).1 (xs ++ [(conK d).2.1]) r (fun x hx=>h6 x (by rw [hb];simp [hx])) j3 hr (by have:=qbaa bl;rw [q3.len,tkC];simp only [List.length_append,List.length_cons];omega) (fun x hx=>by have:=qcm (hmb x (by rw [hb];simp [hx]));rw [j4,hdn];omega)
 obtain ⟨i5,i6⟩:=Prod.ext_iff.1 i1
 dsimp only at i5 i6
 refine ⟨i6,?_,i3,i4.trans (j4.trans hdn)⟩
 have hlen:xs.length = (ahN n).length:=by have:=congrArg List.length g2;simpa using this
 refine qeq h0.symm (by show (xs.length:Int) = n.num;rw [hlen,h3]) hte ?_
 rw [i5,h2,hb]
 show (xs ++ [(conK d).2.1] ++ ys).map qo = _
 rw [List.map_append,List.map_append,List.map_append,g2,i2,List.append_assoc]
 exact congrArg (fun y=>_ ++ (y :: _)) j2
theorem qwp {n:N} (ht:biW n = true∨sgW n = true) (hw:(enc n).wf) {c:K} {r:List T} (h:Ah c (tkB n ++ r)) (hr:StS r) (hn:c.nest + 2 * dp n≤203):Got3 c (qbs n.kind c) n r:=by
 have hg:Got c (qj8 c) n r:=qx5 (b:=rest c + 1) (fun m d s h1 h2 h3 h4 h5 h6=>qyp _ m d s h1 h2 h3 h4 (by omega) h6) ht hw h hr (by omega) hn
 obtain ⟨x,g1,g2,g3,g4⟩:=hg
 have hk:x.kind = n.kind:=by
  have:=congrArg N.kind (show qo x = qo n from g2)
  rwa [qgh,qgh] at this
 unfold qbs
 rw [g1]
 dsimp only [Option.getD_some]
 rw [if_neg (fun e=>e.2 hk)]
 exact qpg ⟨x,g1,g2,g3,g4⟩
theorem q7l {k:Int}:∀ (l:List N) (f:Nat) (c:K) (acc:List N) (r:List T),(∀ x∈l,(biW x = true∨sgW x = true)∧(enc x).wf∧x.kind = k)->Ah c ((l.map fun x=>mkT [59] :: tkB x).flatten ++ mkT [125] :: r)->l.length < f->(∀ x∈l,c.nest + 2 * dp x≤203) →
 ∃ xs,(rowF (qbs k) qd7 f true c acc).2.2 = (acc ++ xs,true)∧xs.map qo = l.map qo∧Ah (rowF (qbs k) qd7 f true c acc).2.1 (mkT [125] :: r)∧(rowF (qbs k) qd7 f true c acc).2.1.nest = c.nest
 | l,0,_,_,_,_,_,hf,_=>by omega
 | [], f + 1, c, acc, r, _, h, _, _ => by
   have h:Ah c (mkT [125] :: r):=h
   have e:qd7 true c = (true,c,false):=if_pos (by rw [h.is];exact qbx _)
   rw [rowF,e]
   dsimp only
   rw [if_neg Bool.false_ne_true]
   exact ⟨[],by simp,rfl,h,rfl⟩
 | x :: l, f + 1, c, acc, r, ht, h, hf, hn => by
   obtain ⟨t1,t2,t3⟩:=ht x (by simp)
   rw [List.map_cons,List.flatten_cons,List.append_assoc,List.cons_append] at h
   obtain ⟨_,q1,q2⟩:=h.cons
   have hne:isK (qi c) [125] = false:=by
    obtain ⟨t,s,e1,e2⟩:=qnv t1 t2
    have q1':=q1
    rw [e1,List.cons_append] at q1'
    rw [q1'.is,e2]
   have e:qd7 true c = (true,qi c,true):=by
    have e1:qbo [59] true c = (true,qi c,true):=by rw [qbo,if_pos rfl,h.take (qbx _)]
    rw [qd7,if_neg (by rw [h.is];decide),e1]
    dsimp only
    rw [hne];rfl
   have hS:StS ((l.map fun x=>mkT [59] :: tkB x).flatten ++ mkT [125] :: r):=by
    cases l with
    | nil=>exact qxf r
    | cons y l=>exact qzo _
   obtain ⟨g1,g2,g3,g4⟩:=qwp t1 t2 q1 hS (by rw [q2];exact hn x (by simp))
   rw [t3] at g1 g2 g3 g4
   rw [rowF,e]
   dsimp only
   rw [if_pos rfl,if_pos g1]
   obtain ⟨xs,k1,k2,k3,k4⟩:=q7l l f _ (acc ++ [(qbs k (qi c)).2.1]) r (fun z hz=>ht z (by simp [hz])) g3 (by simp at hf;omega) (fun z hz=>by rw [g4,q2];exact hn z (by simp [hz]))
   refine ⟨(qbs k (qi c)).2.1 :: xs,by rw [k1];simp,?_,k3,k4.trans (g4.trans q2)⟩
   rw [List.map_cons,List.map_cons,k2];exact congrArg (· :: _) g2
theorem qbtx (l:List N):l.length≤((l.map fun x=>mkT [59] :: tkB x).flatten).length:=by
 induction l with
 | nil=>exact Nat.le_refl _
 | cons x l ih=>simp only [List.map_cons,List.flatten_cons,List.length_append,List.length_cons];omega
theorem qbwv {k:Int} {l:List N} (ht:∀ x∈l,(biW x = true∨sgW x = true)∧(enc x).wf∧x.kind = k) {c:K} {r:List T} (h:Ah c (rsT qo5 :: (semK (l.map tkB) ++ r))) (hn:∀ x∈l,c.nest + 2 * dp x≤203) (out:List N) :
 ∃ xs,(qdb k c out).2 = (out ++ xs,true)∧xs.map qo = l.map qo∧Ah (qdb k c out).1 r∧(qdb k c out).1.nest = c.nest:=by
 obtain ⟨_,q1,q2⟩:=h.cons
 rw [semK,List.cons_append,List.append_assoc,List.singleton_append] at q1
 obtain ⟨_,q3,q4⟩:=q1.cons
 unfold qdb
 rw [h.want (x:=[119,104,101,114,101]) (qf8 _)]
 dsimp only
 rw [if_pos rfl,q1.want (qbx _)]
 dsimp only
 rw [if_pos rfl]
 generalize qi (qi c) = d at q3 q4 ⊢
 have hdn:d.nest = c.nest:=q4.trans q2
 have hres:∃ xs,(rowS (qbs k) qd7 false d out).2.2 = (out ++ xs,true)∧xs.map qo = l.map qo∧Ah (rowS (qbs k) qd7 false d out).2.1 (mkT [125] :: r)∧(rowS (qbs k) qd7 false d out).2.1.nest = d.nest:=by
  cases l with
  | nil =>
    have q3:Ah d (mkT [125] :: r):=q3
    have e:qd7 false d = (false,d,false):=if_pos (by rw [q3.is];exact qbx _)
    rw [rowS,rowF,e]
    dsimp only
    rw [if_neg Bool.false_ne_true]
    exact ⟨[],by simp,rfl,q3,rfl⟩
  | cons x l =>
    obtain ⟨t1,t2,t3⟩:=ht x (by simp)
    rw [List.map_cons,qlv,List.map_map,List.append_assoc] at q3
    have q3:Ah d (tkB x ++ ((l.map fun x=>mkT [59] :: tkB x).flatten ++ mkT [125] :: r)):=q3
    have hS:StS ((l.map fun x=>mkT [59] :: tkB x).flatten ++ mkT [125] :: r):=by
     cases l with
     | nil=>exact qxf r
     | cons y l=>exact qzo _
    have hne:isK d [125] = false:=by
     obtain ⟨t,s,e1,e2⟩:=qnv t1 t2
     have q3':=q3
     rw [e1,List.cons_append] at q3'
     rw [q3'.is,e2]
    have e:qd7 false d = (true,d,true):=by
     have e1:qbo [59] false d = (true,d,true):=if_neg Bool.false_ne_true
     rw [qd7,if_neg (by rw [hne];decide),e1]
     dsimp only
     rw [hne];rfl
    obtain ⟨g1,g2,g3,g4⟩:=qwp t1 t2 q3 hS (by rw [hdn];exact hn x (by simp))
    rw [t3] at g1 g2 g3 g4
    rw [rowS,rowF,e]
    dsimp only
    rw [if_pos rfl,if_pos g1]
    obtain ⟨xs,k1,k2,k3,k4⟩:=q7l (k:=k) l (rest d) _ (out ++ [(qbs k d).2.1]) r (fun z hz=>ht z (by simp [hz])) g3 (by
     obtain ⟨t,s,e1,_⟩:=qnv t1 t2
     have:=qbtx l
     rw [q3.len,e1];simp only [List.length_append,List.length_cons];omega) (fun z hz=>by rw [g4,hdn];exact hn z (by simp [hz]))
    refine ⟨(qbs k d).2.1 :: xs,by rw [k1];simp,?_,k3,k4.trans g4⟩
    rw [List.map_cons,List.map_cons,k2];exact congrArg (· :: _) g2
 obtain ⟨xs,k1,k2,k3,k4⟩:=hres
 obtain ⟨k5,k6⟩:=Prod.ext_iff.1 k1
 dsimp only at k5 k6
 unfold qob
 rw [if_pos k6,k3.want (qbx _)]
 dsimp only
 obtain ⟨_,q5,q6⟩:=k3.cons
 exact ⟨xs,by rw [k5],k2,q5,q6.trans (k4.trans hdn)⟩
end Go.Proofs.YtlmcofjcpadmiaaGreat
