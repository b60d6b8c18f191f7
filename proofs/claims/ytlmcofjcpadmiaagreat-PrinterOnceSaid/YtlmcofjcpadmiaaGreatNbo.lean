/- Texts of this proof, joined. -/
import Derived.Test.YtlmcofjcpadmiaaGreatNbm
import Derived.Test.YtlmcofjcpadmiaaGreatNbn
import Derived.Test.YtlmcofjcpadmiaaGreatNbh
set_option linter.unusedVariables false
set_option linter.unusedSimpArgs false

/- declarations of long texts -/
set_option maxRecDepth 4000
namespace Go.Proofs.YtlmcofjcpadmiaaGreat
open Go Go.RowKit Go.V

theorem qbla:∀ n,sz n≤10000000->depR n = dp n:=N.ind fun n ih h=>by
 rw [qba5,qra]
 rw [qg1] at h
 have key:∀ (l:List N),(∀ x∈l,sz x≤10000000->depR x = dp x)->szs l≤10000000->∀ a:Int,0≤a->qxk a l = max a (dps l):=by
  intro l
  induction l with
  | nil=>intro _ _ a h0;simp [qxk,dps];omega
  | cons x r ihr =>
    intro hx hs a h0
    simp only [szs] at hs
    simp only [qxk,dps]
    rw [hx x (by simp) (by omega)]
    have:=ihr (fun y hy=>hx y (by simp [hy])) (by omega)
    split
    ·rw [this _ (by omega)];omega
    ·rw [this _ (by omega)];omega
 have hd:=qxd (l:=n.kids) fun x _=>qce1 x
 rw [key n.kids ih (by omega) 0 (by omega),qnb (by omega) (by omega)]
 omega
theorem qbor:∀ n (l s:Int),0≤l->l + sz n≤20000000->qeb dpF n l s = (max s (l + dp n - 1),true):=N.ind fun n ih l s h0 h1=>by
 rw [qji,qra]
 rw [qg1] at h1
 simp only [dpF,if_true]
 have key:∀ (r:List N),(∀ x∈r,∀ (l s:Int),0≤l->l + sz x≤20000000->qeb dpF x l s = (max s (l + dp x - 1),true))->∀ (l s:Int),0≤l->l + szs r≤20000000->l - 1≤s->qe3 dpF l r s = (max s (l + dps r - 1),true):=by
  intro r
  induction r with
  | nil=>intro _ l s _ _ h;simp only [qe3,dps,Prod.mk.injEq,and_true];omega
  | cons x r ihr =>
    intro hx l s h0 h1 h2
    simp only [szs] at h1
    simp only [qe3,dps]
    rw [hx x (by simp) _ _ h0 (by omega),if_pos rfl,ihr (fun y hy=>hx y (by simp [hy])) _ _ (by omega) (by omega) (by omega)]
    simp only [Prod.mk.injEq,and_true];omega
 have:=key n.kids ih (IntKind.i64.wrap (l + 1)) (if l > s then l else s) (by rw [qnb (by omega) (by omega)];omega) (by rw [qnb (by omega) (by omega)];omega) (by rw [qnb (by omega) (by omega)];split<;>omega)
 rw [this,qnb (by omega) (by omega)]
 simp only [Prod.mk.injEq,and_true]
 split<;>omega
theorem q7y {n:N} (h:sz n≤10000000):(qeb (fun (k:Int) l _=>(if l > k then l else k,true)) n 1 0).1 = depR n:=by
 show (qeb dpF n 1 0).1 = depR n
 rw [qbor n 1 0 (by omega) (by omega),qbla n (by omega)]
 have:=qra n
 simp only;omega
theorem qbc6 {so:FuncId} {rd:K->K×Option N} {s:List UInt8} (hrd:∀ c:K,c.good->qb7 Tryz.prog so (curE c) (curE (rd c).1) [.ptr 0 0] (enc ((rd c).2.getD N0)))
 (hm:∀ c,Mon c (rd c).1) (hsz:∀ c,sz ((rd c).2.getD N0)≤2 * rest c + 1):qx Tryz.prog 59 [.str s,.fn so [] []] (resV (q3o rd s)):=by
 have g:=qbbd (qqm s).1
 have g2:(rd (newK (lexV s).1)).1.good:=(hm _).1 g
 have hsz':sz ((rd (newK (lexV s).1)).2.getD N0)≤10000000:=by
  have h1:=hsz (newK (lexV s).1)
  have h2:=ql0 (lexV s).1
  have h3:=(qqm s).1
  have h4:rest (newK (lexV s).1) = (qem (lexV s).1).length:=rfl
  omega
 have hdp:=q7y hsz'
 refine qn c0c (by simp) (by simp only [go_sem]) (by simp only [go_sem]) fun hw=>?_
 repeat' (first | refine vs_ ?_ | ((first | refine vr_ ?_ | refine qa (q0d s) fun _=>?_ | refine qbmj (qbk6 _ (qqm s).1) (q9 _ _) (by simp only [go_sem]) ?_ | refine q48 1 (hrd _ g) (by rfl) (q9 _ _) (q9 _ _) (by rfl) (qne _ _) (by rfl) fun _=>?_ | refine q48 1 (q5e _ g2.ok) (by rfl) (q9 _ _) (q9 _ _) (by rfl) (by rfl) (by rfl) fun _=>?_ | refine qa (qum (qbdp _) (by rw [hdp])) fun _=>?_ | refine qj (q0d s) ?_ | refine qj (qum (qbdp _) (by rw [hdp])) ?_ | (refine cs_ ?_ ?_<;>intro hc) | refine cj_ ?_ | fail)<;>(try refine ev_ ?_)) | with_reducible exact ti_)
 all_goals (try rw [qed])
 all_goals unfold q3o qyz
 all_goals (repeat' split)
 all_goals first | omega | rfl | (exfalso;omega) | simp_all [go_sem]
theorem qlp (s:List UInt8):qx Tryz.prog 28 [.str s] (resV (qmu s)):=by
 refine qn c0d (by simp) (by simp only [go_sem]) (by simp only [go_sem]) fun hw=>?_
 repeat' (first | refine vs_ ?_ | ((first | refine vr_ ?_ | refine qa (qbc6 qb3f qbd3 qxm) fun _=>?_ | (refine cs_ ?_ ?_<;>intro hc) | refine cj_ ?_ | fail)<;>(try refine ev_ ?_)) | with_reducible exact ti_)
 all_goals rfl
set_option maxRecDepth 4000

def nX:N:=.mk 21 0 0 [120] []
def nL:N:=.mk 25 0 0 [120] [.mk 24 0 0 [] [.mk 21 0 0 [102] [],nX]]
def nA:N:=.mk 1 0 0 [97] []
def nF:N:=.mk 2 0 0 [45,62] [.mk 2 0 0 [45,62] [nA,nA],nA]
def nB:N:=.mk 31 0 0 [120] [nL]
def nG:N:=.mk 37 0 0 [] []
def nP:N:=.mk 12 0 0 [] []
def nQ:N:=.mk 4 0 0 [] [nA]
theorem bigT {s:List UInt8} (h:s.length≤1000):s.length + 4≤Big:=by unfold Big;omega
theorem z1:qx Tryz.prog 15 [enc nL] (.str [92,32,120,32,45,62,32,102,32,120]):=qum (qtr (n:=nL) (by decide) (bigT (by decide))) (by rw [show outE nL = [92,32,120,32,45,62,32,102,32,120] by rfl])
theorem z2:qx Tryz.prog 9 [enc nF] (.str [40,97,32,45,62,32,97,41,32,45,62,32,97]):=qum (q0w (n:=nF) (by decide) (bigT (by decide))) (by rw [show outT nF = [40,97,32,45,62,32,97,41,32,45,62,32,97] by rfl])
theorem z3:qx Tryz.prog 15 [enc nF] (.str []):=qum (qtr (n:=nF) (by decide) (bigT (by decide))) (by rw [show outE nF = [] by rfl])
theorem z4:qx Tryz.prog 19 [enc nG] (.str []):=qum (qhx (n:=nG) (by decide) (bigT (by decide))) (by rw [show outG nG = [] by rfl])
theorem z5:qx Tryz.prog 17 [enc nB] (.str [120,32,61,32,92,32,120,32,45,62,32,102,32,120]):=qum (q0o (n:=nB) (by decide) (bigT (by decide))) (by rw [show outD nB = [120,32,61,32,92,32,120,32,45,62,32,102,32,120] by rfl])
theorem z6:qx Tryz.prog 13 [enc nP] (.str [95]):=qum (q3b (n:=nP) (by decide) (bigT (by decide))) (by rw [show outP nP = [95] by rfl])
theorem z7:qx Tryz.prog 11 [enc nQ] (.str [97]):=qum (qzt (n:=nQ) (by decide) (bigT (by decide))) (by rw [show outQ nQ = [97] by rfl])
theorem q34:qx Tryz.prog 8 [] (.bool true):=by
 refine qn c0b (by simp) (by simp only [go_sem]) rfl fun hw=>?_
 repeat' (first | refine vs_ ?_ | ((first | refine vr_ ?_ | refine qa z1 fun _=>?_ | refine qa z2 fun _=>?_ | refine qa z3 fun _=>?_ | refine qa z4 fun _=>?_ | refine qa z5 fun _=>?_ | refine qa z6 fun _=>?_ | refine qa z7 fun _=>?_ | (refine cs_ ?_ ?_<;>intro hc) | refine cj_ ?_ | fail)<;>(try refine ev_ ?_)) | with_reducible exact ti_)

theorem q6g {n:N} (ht:tyW n = true) {c:K} {r:List T} (h:Ah c (atK n ++ r)) (hn:c.nest + 2 * dp n≤200):Got3 c (qb5 c) n r:=by
 refine qsc (q5n ht h (fun hl=>by have:=qx5 hl;omega) fun hl d hd hdn=>qpq _ n d _ ht hd (qmf (by decide)) (qph (by decide)) ?_ (by omega))
 have:rest d < rest c:=by rw [hd.len,h.len,atK,hl,cloK,if_neg Bool.false_ne_true];simp
 omega
theorem q2f {p:K->Bool}:∀ (l:List N) (f:Nat) (b:Bool) (c:K) (acc:List N) (r:List T),(∀ x∈l,tyW x = true)->Ah c ((l.map atK).flatten ++ r)->(∀ x∈l,∀ d s,Ah d (atK x ++ s)->p d = true)->(∀ d,Ah d r->p d = false)->l.length < f->(∀ x∈l,c.nest + 2 * dp x≤200) →
 ∃ xs,(rowF qb5 (qdl p) f b c acc).2.2 = (acc ++ xs,true)∧xs.map qk = l.map qk∧Ah (rowF qb5 (qdl p) f b c acc).2.1 r∧(rowF qb5 (qdl p) f b c acc).2.1.nest = c.nest
 | l,0,_,_,_,_,_,_,_,_,hf,_=>by omega
 | [], f + 1, b, c, acc, r, _, h, _, hp, _, _ => by
   have hb:p c = false:=hp c h
   have e:qdl p b c = (b,c,p c):=rfl
   rw [rowF,e,hb]
   dsimp only
   rw [if_neg Bool.false_ne_true]
   exact ⟨[],by simp,rfl,h,rfl⟩
 | x :: l, f + 1, b, c, acc, r, ht, h, hp1, hp0, hf, hn => by
   rw [List.map_cons,List.flatten_cons,List.append_assoc] at h
   have hb:p c = true:=hp1 x (by simp) c _ h
   have e:qdl p b c = (b,c,p c):=rfl
   obtain ⟨g1,g2,g3,g4⟩:=q6g (ht x (by simp)) h (hn x (by simp))
   rw [rowF,e,hb]
   dsimp only
   rw [if_pos rfl,if_pos g1]
   obtain ⟨xs,k1,k2,k3,k4⟩:=q2f l f b _ (acc ++ [(qb5 c).2.1]) r (fun z hz=>ht z (by simp [hz])) g3 (fun z hz=>hp1 z (by simp [hz])) hp0 (by simp at hf;omega) (fun z hz=>by rw [g4];exact hn z (by simp [hz]))
   refine ⟨(qb5 c).2.1 :: xs,by rw [k1];simp,?_,k3,k4.trans g4⟩
   rw [List.map_cons,List.map_cons,k2];exact congrArg (· :: _) g2
theorem qbn4 {x:N} (ht:tyW x = true) {d:K} {s:List T} (h:Ah d (atK x ++ s)):begT d = true:=by
 obtain ⟨t,u,e1,e2⟩:=qqe ht
 rw [e1,List.cons_append] at h
 unfold begT
 rw [h.kind,h.is]
 rcases e2 with e | e | e<;>simp [e]
theorem qbtf {d:K} {r:List T} (h:Ah d r) (hr:NoA r):begT d = false:=by
 unfold begT
 cases r with
 | nil=>obtain ⟨e1,e2⟩:=Ah.nil h;rw [e1,e2];rfl
 | cons t s =>
   obtain ⟨e1,e2,e3⟩:=hr t s rfl
   rw [h.kind,h.is,e3,decide_eq_false e1,decide_eq_false e2];rfl
theorem q59 {l:List N} (h:∀ x∈l,tyW x = true):l.length≤(l.map atK).flatten.length:=by
 induction l with
 | nil=>exact Nat.le_refl _
 | cons x l ihl =>
   obtain ⟨t,s,e1,_⟩:=qqe (h x (by simp))
   have:=ihl fun y hy=>h y (by simp [hy])
   simp only [List.map_cons,List.flatten_cons,List.length_append,List.length_cons,e1]
   omega
theorem qbqe {n:N} (hc:cnW n = true) {c:K} {r:List T} (h:Ah c (tkC n ++ r)) (hr:NoA r) (hn:c.nest + 2 * dp n≤202):Got3 c (conK c) n r:=by
 obtain ⟨p1,p2,p3,p4⟩:=qqw hc
 rw [tkC,List.cons_append] at h
 obtain ⟨k1,k2⟩:=h.kindK (k:=2) rfl
 obtain ⟨_,q1,q2⟩:=h.cons
 have hte:=h.text
 unfold conK
 rw [k1,k2]
 dsimp only
 rw [if_pos rfl]
 obtain ⟨xs,g1,g2,g3,g4⟩:=q2f (p:=begT) n.kids (rest (qg c) + 1) false (qg c) [] r p4 q1 (fun x hx d s hd=>qbn4 (p4 x hx) hd) (fun d hd=>qbtf hd hr) (by have:=q59 p4;rw [q1.len];simp only [List.length_append];omega) (fun x hx=>by have:=qcx hx;rw [q2];omega)
 obtain ⟨g5,g6⟩:=Prod.ext_iff.1 g1
 dsimp only at g5 g6
 rw [List.nil_append] at g5
 refine ⟨g6,qfw p1.symm p2.symm hte ?_,g3,g4.trans q2⟩
 show (rowS qb5 (qdl begT) false (qg c) []).2.2.1.map qk = _
 rw [show (rowS qb5 (qdl begT) false (qg c) []).2.2.1 = xs from g5,g2]
theorem qoy (t:T) (a:List T):∀ l:List (List T),qeo t (a :: l) = a ++ (l.map (t :: ·)).flatten
 | []=>by simp [qeo]
 | b :: l=>by rw [qeo,qoy t b l];simp
def NoC (r:List T):Prop:=NoA r∧∀ t s,r = t :: s->qcg t [124] = false
theorem qber:∀ (l:List N) (f:Nat) (c:K) (acc:List N) (r:List T),(∀ x∈l,cnW x = true)->Ah c ((l.map fun x=>mkT [124] :: tkC x).flatten ++ r)->NoC r->l.length < f->(∀ x∈l,c.nest + 2 * dp x≤202) →
 ∃ xs,(rowF conK (qbh [124]) f true c acc).2.2 = (acc ++ xs,true)∧xs.map qk = l.map qk∧Ah (rowF conK (qbh [124]) f true c acc).2.1 r∧(rowF conK (qbh [124]) f true c acc).2.1.nest = c.nest
 | l,0,_,_,_,_,_,_,hf,_=>by omega
 | [], f + 1, c, acc, r, _, h, hr, _, _ => by
   have hno:qf c [124] = (c,false):=by
    cases r with
    | nil=>exact qkq ((Ah.nil h).2 _)
    | cons t s=>exact Ah.leave_it h (hr.2 t s rfl)
   have e:qbh [124] true c = (true,c,false):=by rw [qbh,if_pos rfl,hno]
   rw [rowF,e]
   dsimp only
   rw [if_neg Bool.false_ne_true]
   exact ⟨[],by simp,rfl,h,rfl⟩
 | x :: l, f + 1, c, acc, r, ht, h, hr, hf, hn => by
   rw [List.map_cons,List.flatten_cons,List.append_assoc,List.cons_append] at h
   have e:qbh [124] true c = (true,qg c,true):=by rw [qbh,if_pos rfl,h.take (qcb _)]
   obtain ⟨_,q1,q2⟩:=h.cons
   have hA:NoA ((l.map fun x=>mkT [124] :: tkC x).flatten ++ r):=by
    cases l with
    | nil=>exact hr.1
    | cons y l=>exact qmf (by decide)
   obtain ⟨g1,g2,g3,g4⟩:=qbqe (ht x (by simp)) q1 hA (by rw [q2];exact hn x (by simp))
   rw [rowF,e]
   dsimp only
   rw [if_pos rfl,if_pos g1]
   obtain ⟨xs,k1,k2,k3,k4⟩:=qber l f _ (acc ++ [(conK (qg c)).2.1]) r (fun z hz=>ht z (by simp [hz])) g3 hr (by simp at hf;omega) (fun z hz=>by rw [g4,q2];exact hn z (by simp [hz]))
   refine ⟨(conK (qg c)).2.1 :: xs,by rw [k1];simp,?_,k3,k4.trans (g4.trans q2)⟩
   rw [List.map_cons,List.map_cons,k2];exact congrArg (· :: _) g2
theorem qbko (l:List N):l.length≤((l.map fun x=>mkT [124] :: tkC x).flatten).length:=by
 induction l with
 | nil=>exact Nat.le_refl _
 | cons x l ih=>simp only [List.map_cons,List.flatten_cons,List.length_append,List.length_cons];omega
theorem qbwj {n:N} (h0:n.kind = 33) (h2:n.kids = ahN n ++ beN n) (h3:((ahN n).length:Int) = n.num) (h4:beN n≠[]) (h5:∀ x∈ahN n,vaW x = true) (h6:∀ x∈beN n,cnW x = true) {c:K} {r:List T}
 (h:Ah c (prH n :: (((ahN n).map atK).flatten ++ mkT [61] :: qeo (mkT [124]) ((beN n).map tkC)) ++ r)) (hr:NoC r) (hn:c.nest + 2 * dp n≤202) (p:Int):Got3 c (qi0 p c) n r:=by
 rw [List.cons_append,List.append_assoc,List.cons_append] at h
 obtain ⟨k1,k2⟩:=h.kindK (k:=2) rfl
 obtain ⟨_,q1,q2⟩:=h.cons
 have hte:=h.text
 have hma:∀ x∈ahN n,x∈n.kids:=fun x hx=>List.mem_of_mem_take hx
 have hmb:∀ x∈beN n,x∈n.kids:=fun x hx=>List.mem_of_mem_drop hx
 have hty:∀ x∈ahN n,tyW x = true:=fun x hx=>(qub (h5 x hx)).2
 unfold qi0
 rw [k1,k2]
 dsimp only
 rw [if_pos rfl]
 obtain ⟨xs,g1,g2,g3,g4⟩:=q2f (p:=qdj) (ahN n) (rest (qg c) + 1) false (qg c) [] _ hty q1 (fun x hx d s hd=>by
  obtain ⟨v1,v2⟩:=qub (h5 x hx)
  obtain ⟨n1,_,_⟩:=qkc v2 (fun e=>e.1 v1)
  have hk:x.kids = []:=by
   rcases n1 with ⟨_,_,h⟩ | ⟨h,_⟩
   ·exact h
   ·omega
  have hlf:qbi x = true:=decide_eq_true hk
  obtain ⟨e1,_,_⟩:=qqp v2 hlf
  rw [atK,hlf,cloK,if_pos rfl,e1,List.singleton_append] at hd
  have:=hd.kind
  rw [qdj,this,qjb,if_pos v1];rfl) (fun d hd=>by rw [qdj,hd.kind];rfl) (by have:=q59 hty;rw [q1.len];simp only [List.length_append];omega) (fun x hx=>by have:=qcx (hma x hx);rw [q2];omega)
 obtain ⟨g5,g6⟩:=Prod.ext_iff.1 g1
 dsimp only at g5 g6
 rw [List.nil_append] at g5
 have g3:Ah (rowS qb5 (qdl qdj) false (qg c) []).2.1 (mkT [61] :: (qeo (mkT [124]) ((beN n).map tkC) ++ r)):=g3
 have g4:(rowS qb5 (qdl qdj) false (qg c) []).2.1.nest = (qg c).nest:=g4
 have g5:(rowS qb5 (qdl qdj) false (qg c) []).2.2.1 = xs:=g5
 unfold qy2
 rw [g3.want (qcb _),g5]
 unfold qxw
 rw [if_pos rfl]
 dsimp only
 obtain ⟨_,q3,q4⟩:=g3.cons
 obtain ⟨b0,bl,hb⟩:∃ b0 bl,beN n = b0 :: bl:=by
  cases hq:beN n with
  | nil=>exact absurd hq h4
  | cons a l=>exact ⟨a,l,rfl⟩
 rw [hb,List.map_cons,qoy,List.map_map,List.append_assoc] at q3
 have q3:Ah (qg (rowS qb5 (qdl qdj) false (qg c) []).2.1) (tkC b0 ++ ((bl.map fun x=>mkT [124] :: tkC x).flatten ++ r)):=q3
 have hA:NoA ((bl.map fun x=>mkT [124] :: tkC x).flatten ++ r):=by
  cases bl with
  | nil=>exact hr.1
  | cons y l=>exact qmf (by decide)
 generalize qg (rowS qb5 (qdl qdj) false (qg c) []).2.1 = d at q3 q4 ⊢
 have hdn:d.nest = c.nest:=q4.trans (g4.trans q2)
 obtain ⟨j1,j2,j3,j4⟩:=qbqe (h6 b0 (by rw [hb];simp)) q3 hA (by have:=qcx (hmb b0 (by rw [hb];simp));omega)
 have e:rowS conK (qbh [124]) false d xs = rowF conK (qbh [124]) (rest d) true (conK d).1 (xs ++ [(conK d).2.1]):=by
  have e1:qbh [124] false d = (true,d,true):=if_neg Bool.false_ne_true
  rw [rowS,rowF,e1]
  dsimp only
  rw [if_pos rfl,if_pos j1]
 rw [e]
 obtain ⟨ys,i1,i2,i3,i4⟩:=qber bl (rest d) (conK d).1 (xs ++ [(conK d).2.1]) r (fun x hx=>h6 x (by rw [hb];simp [hx])) j3 hr (by have:=qbko bl;rw [q3.len,tkC];simp only [List.length_append,List.length_cons];omega) (fun x hx=>by have:=qcx (hmb x (by rw [hb];simp [hx]));rw [j4,hdn];omega)
 obtain ⟨i5,i6⟩:=Prod.ext_iff.1 i1
 dsimp only at i5 i6
 refine ⟨i6,?_,i3,i4.trans (j4.trans hdn)⟩
 have hlen:xs.length = (ahN n).length:=by have:=congrArg List.length g2;simpa using this
 refine qfw h0.symm (by show (xs.length:Int) = n.num;rw [hlen,h3]) hte ?_
 rw [i5,h2,hb]
 show (xs ++ [(conK d).2.1] ++ ys).map qk = _
 rw [List.map_append,List.map_append,List.map_append,g2,i2,List.append_assoc]
 exact congrArg (fun y=>_ ++ (y :: _)) j2
theorem qzw {n:N} (ht:biW n = true∨sgW n = true) (hw:(enc n).wf) {c:K} {r:List T} (h:Ah c (tkB n ++ r)) (hr:StS r) (hn:c.nest + 2 * dp n≤203):Got3 c (qv n.kind c) n r:=by
 have hg:Got c (qgj c) n r:=q36 (b:=rest c + 1) (fun m d s h1 h2 h3 h4 h5 h6=>qbgn _ m d s h1 h2 h3 h4 (by omega) h6) ht hw h hr (by omega) hn
 obtain ⟨x,g1,g2,g3,g4⟩:=hg
 have hk:x.kind = n.kind:=by
  have:=congrArg N.kind (show qk x = qk n from g2)
  rwa [qeq,qeq] at this
 unfold qv
 rw [g1]
 dsimp only [Option.getD_some]
 rw [if_neg (fun e=>e.2 hk)]
 exact qsc ⟨x,g1,g2,g3,g4⟩
theorem qbb3 {k:Int}:∀ (l:List N) (f:Nat) (c:K) (acc:List N) (r:List T),(∀ x∈l,(biW x = true∨sgW x = true)∧(enc x).wf∧x.kind = k)->Ah c ((l.map fun x=>mkT [59] :: tkB x).flatten ++ mkT [125] :: r)->l.length < f->(∀ x∈l,c.nest + 2 * dp x≤203) →
 ∃ xs,(rowF (qv k) qdy f true c acc).2.2 = (acc ++ xs,true)∧xs.map qk = l.map qk∧Ah (rowF (qv k) qdy f true c acc).2.1 (mkT [125] :: r)∧(rowF (qv k) qdy f true c acc).2.1.nest = c.nest
 | l,0,_,_,_,_,_,hf,_=>by omega
 | [], f + 1, c, acc, r, _, h, _, _ => by
   have h:Ah c (mkT [125] :: r):=h
   have e:qdy true c = (true,c,false):=if_pos (by rw [h.is];exact qcb _)
   rw [rowF,e]
   dsimp only
   rw [if_neg Bool.false_ne_true]
   exact ⟨[],by simp,rfl,h,rfl⟩
 | x :: l, f + 1, c, acc, r, ht, h, hf, hn => by
   obtain ⟨t1,t2,t3⟩:=ht x (by simp)
   rw [List.map_cons,List.flatten_cons,List.append_assoc,List.cons_append] at h
   obtain ⟨_,q1,q2⟩:=h.cons
   have hne:isK (qg c) [125] = false:=by
    obtain ⟨t,s,e1,e2⟩:=qqh t1 t2
    have q1':=q1
    rw [e1,List.cons_append] at q1'
    rw [q1'.is,e2]
   have e:qdy true c = (true,qg c,true):=by
    have e1:qbh [59] true c = (true,qg c,true):=by rw [qbh,if_pos rfl,h.take (qcb _)]
    rw [qdy,if_neg (by rw [h.is];decide),e1]
    dsimp only
    rw [hne];rfl
   have hS:StS ((l.map fun x=>mkT [59] :: tkB x).flatten ++ mkT [125] :: r):=by
    cases l with
    | nil=>exact q3g r
    | cons y l=>exact q6s _
   obtain ⟨g1,g2,g3,g4⟩:=qzw t1 t2 q1 hS (by rw [q2];exact hn x (by simp))
   rw [t3] at g1 g2 g3 g4
   rw [rowF,e]
   dsimp only
   rw [if_pos rfl,if_pos g1]
   obtain ⟨xs,k1,k2,k3,k4⟩:=qbb3 l f _ (acc ++ [(qv k (qg c)).2.1]) r (fun z hz=>ht z (by simp [hz])) g3 (by simp at hf;omega) (fun z hz=>by rw [g4,q2];exact hn z (by simp [hz]))
   refine ⟨(qv k (qg c)).2.1 :: xs,by rw [k1];simp,?_,k3,k4.trans (g4.trans q2)⟩
   rw [List.map_cons,List.map_cons,k2];exact congrArg (· :: _) g2
theorem qb3a (l:List N):l.length≤((l.map fun x=>mkT [59] :: tkB x).flatten).length:=by
 induction l with
 | nil=>exact Nat.le_refl _
 | cons x l ih=>simp only [List.map_cons,List.flatten_cons,List.length_append,List.length_cons];omega
theorem qbxy {k:Int} {l:List N} (ht:∀ x∈l,(biW x = true∨sgW x = true)∧(enc x).wf∧x.kind = k) {c:K} {r:List T} (h:Ah c (rsT qsw :: (semK (l.map tkB) ++ r))) (hn:∀ x∈l,c.nest + 2 * dp x≤203) (out:List N) :
 ∃ xs,(qc1 k c out).2 = (out ++ xs,true)∧xs.map qk = l.map qk∧Ah (qc1 k c out).1 r∧(qc1 k c out).1.nest = c.nest:=by
 obtain ⟨_,q1,q2⟩:=h.cons
 rw [semK,List.cons_append,List.append_assoc,List.singleton_append] at q1
 obtain ⟨_,q3,q4⟩:=q1.cons
 unfold qc1
 rw [h.want (x:=[119,104,101,114,101]) (qhi _)]
 dsimp only
 rw [if_pos rfl,q1.want (qcb _)]
 dsimp only
 rw [if_pos rfl]
 generalize qg (qg c) = d at q3 q4 ⊢
 have hdn:d.nest = c.nest:=q4.trans q2
 have hres:∃ xs,(rowS (qv k) qdy false d out).2.2 = (out ++ xs,true)∧xs.map qk = l.map qk∧Ah (rowS (qv k) qdy false d out).2.1 (mkT [125] :: r)∧(rowS (qv k) qdy false d out).2.1.nest = d.nest:=by
  cases l with
  | nil =>
    have q3:Ah d (mkT [125] :: r):=q3
    have e:qdy false d = (false,d,false):=if_pos (by rw [q3.is];exact qcb _)
    rw [rowS,rowF,e]
    dsimp only
    rw [if_neg Bool.false_ne_true]
    exact ⟨[],by simp,rfl,q3,rfl⟩
  | cons x l =>
    obtain ⟨t1,t2,t3⟩:=ht x (by simp)
    rw [List.map_cons,qoy,List.map_map,List.append_assoc] at q3
    have q3:Ah d (tkB x ++ ((l.map fun x=>mkT [59] :: tkB x).flatten ++ mkT [125] :: r)):=q3
    have hS:StS ((l.map fun x=>mkT [59] :: tkB x).flatten ++ mkT [125] :: r):=by
     cases l with
     | nil=>exact q3g r
     | cons y l=>exact q6s _
    have hne:isK d [125] = false:=by
     obtain ⟨t,s,e1,e2⟩:=qqh t1 t2
     have q3':=q3
     rw [e1,List.cons_append] at q3'
     rw [q3'.is,e2]
    have e:qdy false d = (true,d,true):=by
     have e1:qbh [59] false d = (true,d,true):=if_neg Bool.false_ne_true
     rw [qdy,if_neg (by rw [hne];decide),e1]
     dsimp only
     rw [hne];rfl
    obtain ⟨g1,g2,g3,g4⟩:=qzw t1 t2 q3 hS (by rw [hdn];exact hn x (by simp))
    rw [t3] at g1 g2 g3 g4
    rw [rowS,rowF,e]
    dsimp only
    rw [if_pos rfl,if_pos g1]
    obtain ⟨xs,k1,k2,k3,k4⟩:=qbb3 (k:=k) l (rest d) _ (out ++ [(qv k d).2.1]) r (fun z hz=>ht z (by simp [hz])) g3 (by
     obtain ⟨t,s,e1,_⟩:=qqh t1 t2
     have:=qb3a l
     rw [q3.len,e1];simp only [List.length_append,List.length_cons];omega) (fun z hz=>by rw [g4,hdn];exact hn z (by simp [hz]))
    refine ⟨(qv k d).2.1 :: xs,by rw [k1];simp,?_,k3,k4.trans g4⟩
    rw [List.map_cons,List.map_cons,k2];exact congrArg (· :: _) g2
 obtain ⟨xs,k1,k2,k3,k4⟩:=hres
 obtain ⟨k5,k6⟩:=Prod.ext_iff.1 k1
 dsimp only at k5 k6
 unfold qmv
 rw [if_pos k6,k3.want (qcb _)]
 dsimp only
 obtain ⟨_,q5,q6⟩:=k3.cons
 exact ⟨xs,by rw [k5],k2,q5,q6.trans (k4.trans hdn)⟩
end Go.Proofs.YtlmcofjcpadmiaaGreat
