/- Texts of this proof, joined. -/
import Derived.Test.YtgglaabljlhliaaGreatLbv
import Derived.Test.YtgglaabljlhliaaGreatLbi
import Derived.Test.YtgglaabljlhliaaGreatLbq
set_option linter.unusedVariables false
set_option linter.unusedSimpArgs false

/- proofs' texts: those of the examples -/
set_option maxRecDepth 4000
namespace Go.Proofs.YtgglaabljlhliaaGreat
open Go Go.RowKit Go.V

theorem qbv8:digI 0 = [48]:=by simp [digI,digN]
theorem qmj {n:Nat} (h:n≤1000):n≤maxLen:=by unfold maxLen;omega
theorem q2p {x:Prf} (hk:x.kind = 1) (hn:x.num = 0):qk Tryz.prog 25 [qb1 x] (.str [35,48]):=by
 refine qd c0ec (by simp) (by simp only [go_sem]) rfl fun hw=>?_
 have x2:2≤maxLen:=qmj (by omega)
 have x3:3≤maxLen:=qmj (by omega)
 have x4:4≤maxLen:=qmj (by omega)
 have h:=qef 0
 rw [qbv8] at h
 repeat' (first | refine vs_ ?_ | ((first | refine vr_ ?_ | fail)<;>(try simp only [hk,hn,go_sem,↓reduceIte])) | ((first | (refine cs_ ?_ ?_<;>intro hc) | refine cj_ ?_ | simp (disch:=omega) only [encs_getN,qb] | refine qa h fun _=>?_ | refine qc h ?_)<;>(try refine ev_ ?_)) | with_reducible exact ti_)
 all_goals trace_state
theorem q6e {x k:Prf} (hk:x.kind = 2) (hn:x.num = 0) (hks:qt x.kids = [qb1 k]) (h:qk Tryz.prog 25 [qb1 k] (.str [35,48])):qk Tryz.prog 25 [qb1 x] (.str [35,48,46,48]):=by
 refine qd c0ec (by simp) (by simp only [go_sem]) rfl fun hw=>?_
 have x2:2≤maxLen:=qmj (by omega)
 have x3:3≤maxLen:=qmj (by omega)
 have x4:4≤maxLen:=qmj (by omega)
 have h0:=qef 0
 rw [qbv8] at h0
 unfold k0ec
 generalize hz:q1z = z7
 repeat' (first | refine vs_ ?_ | ((first | refine vr_ ?_ | fail)<;>(try simp only [hk,hn,hks,Int.reduceEq,decide_true,decide_false,Bool.false_eq_true,List.length_cons,List.length_nil,go_sem,↓reduceIte])) | ((first | simp (disch:=omega) only [hk,hn,hks] | (refine cs_ ?_ ?_<;>intro hc) | refine cj_ ?_ | simp (disch:=omega) only [encs_getN,qb] | refine qa h fun _=>?_ | refine qa h0 fun _=>?_ | refine qc h ?_ | refine qc h0 ?_)<;>(try refine ev_ ?_)) | with_reducible exact ti_)
 all_goals (exfalso;omega)
def inSt (x k:Prf) (s:List UInt8) (i:Nat):AF×List Ent:=(⟨[(1,.ptr 0 0),(3,.str [64,48]),(4,.row 1 1),(53,.sl 4 [qb1 k]),(54,.int .i64 1),(55,.int .i64 i)],[]⟩,[.blk [.int .i64 3,.int .i64 0,.sl 3 (qx x.types),.sl 4 [qb1 k]],.mrow 1 [.str (if i = 0 then [] else s)]])
set_option maxHeartbeats 400000 in
theorem q1a {x k:Prf} {s:List UInt8} (hk:x.kind = 3) (hn:x.num = 0) (hks:qt x.kids = [qb1 k]) (h:qk Tryz.prog 25 [qb1 k] (.str s)) (hs:s.length≤100):qk Tryz.prog 25 [qb1 x] (.str ([64,48,40] ++ s ++ [41])):=by
 refine qd c0ec (by simp) (by simp only [go_sem]) rfl fun hw=>?_
 have x2:2≤maxLen:=qmj (by omega)
 have x3:3≤maxLen:=qmj (by omega)
 have h0:=qef 0
 rw [qbv8] at h0
 have hj:=strings_Join (ls:=[s]) (sep:=[44,32]) (by simp) (by rw [Lib.join_one];omega)
 rw [Lib.join_one] at hj
 have m1:3 + s.length≤maxLen:=qmj (by omega)
 have m2:3 + s.length + 1≤maxLen:=qmj (by omega)
 unfold k0ec
 generalize hz2:q42 = z2
 generalize hz4:q2u = z4
 generalize hz6:q2v = z6
 generalize hz9:q1w = z9
 repeat' (first | refine vs_ ?_ | ((first | refine vr_ ?_ | fail)<;>(try simp only [hk,hn,hks,Int.reduceEq,decide_true,decide_false,Bool.false_eq_true,List.length_cons,List.length_nil,go_sem,↓reduceIte])) | ((first | simp (disch:=omega) only [hk,hn,hks] | (refine cs_ ?_ ?_<;>intro hc) | refine cj_ ?_ | simp (disch:=omega) only [encs_getN,qb] | refine qa h0 fun _=>?_ | refine qc h0 ?_)<;>(try refine ev_ ?_)) | with_reducible exact ti_)
 all_goals try (exfalso;omega)
 refine qj (S:=Nat) (fun i=>i≤1) (inSt x k s) (fun i=>1 - i) ?_ fun i hi=>?_
 ·refine qf 0 [0,1] (by omega) rfl (by simp) ?_ ?_ ?_<;>simp only [inSt,if_true]<;>(try refine ev_ ?_)<;>(try with_reducible exact ti_)<;>(try simp (disch:=omega) only [qb,and_true,true_and])
  all_goals rfl
 ·unfold inSt
  by_cases h1:i = 1
  ·subst h1
   simp only [Nat.one_ne_zero,if_false]
   refine qbd1 1 rfl (by simp [AV.isAgg,AV.leaf,AV.cells]) ?_
   simp only [List.set_cons_zero,List.set_cons_succ]
   repeat' (first | refine vs_ ?_ | ((first | refine vr_ ?_ | fail)<;>(try simp only [Int.reduceEq,Int.reduceLT,decide_true,decide_false,Bool.false_eq_true,List.length_cons,List.length_nil,go_sem,↓reduceIte])) | ((first | (refine cs_ ?_ ?_<;>intro hc) | refine cj_ ?_ | simp (disch:=omega) only [encs_getN,qb] | refine qa hj fun _=>?_ | refine qc hj ?_)<;>(try refine ev_ ?_)) | with_reducible exact ti_)
   all_goals try (exfalso;omega)
  ·obtain rfl:i = 0:=by omega
   simp only [if_true]
   repeat' (first | refine vs_ ?_ | ((first | refine vr_ ?_ | fail)<;>(try simp (disch:=first | omega | (simp only [List.length_set,List.length_append,List.length_cons,List.length_nil];done) | (simp only [List.length_set,List.length_append,List.length_cons,List.length_nil];omega)) only [Int.reduceEq,Int.reduceLT,decide_true,decide_false,Bool.false_eq_true,List.length_cons,List.length_nil,qb,go_sem,↓reduceIte])) | ((first | (refine cs_ ?_ ?_<;>intro hc) | refine cj_ ?_ | simp (disch:=omega) only [encs_getN,qb] | refine qa h fun _=>?_ | refine qc h ?_)<;>(try refine ev_ ?_)) | with_reducible exact ti_)
   all_goals try (exfalso;omega)
   refine qf 1 [0,1] ⟨by omega,by omega⟩ rfl (by simp) ?_ ?_ ?_<;>simp only [inSt,Nat.one_ne_zero,if_false]<;>(try refine ev_ ?_)<;>(try with_reducible exact ti_)<;>(try simp (disch:=omega) only [qb,and_true,true_and])
   all_goals (rw [qn9])

def Suf (r:Rd) (k:Nat) (p:Ty×Rd):Prop:=(∃ j,p.2.s = r.s.drop j)∧p.2.lv = r.lv∧p.1.args.length + p.2.s.length≤k + r.s.length
theorem qhp {r r1:Rd} {k:Nat} {p:Ty×Rd} (h:(∃ j,r1.s = r.s.drop j)∧r1.lv = r.lv) (hp:Suf r1 k p) {k':Nat} (hl:k + r1.s.length≤k' + r.s.length):Suf r k' p:=by
 obtain ⟨⟨j,h1⟩,h2⟩:=h
 obtain ⟨⟨i,h3⟩,h4,h5⟩:=hp
 exact ⟨⟨j + i,by rw [h3,h1,List.drop_drop]⟩,h4.trans h2,by omega⟩
theorem qzv (s:List UInt8):(qpb s).args = []:=by
 unfold qpb
 split
 ·rfl
 split
 ·split<;>rfl
 ·rfl
theorem qbas (r:Rd):Suf r 0 (qpx r):=⟨⟨qgf r.s,rfl⟩,rfl,by simp [qpx,qzv,badR,cutR]⟩
theorem qhg (k:Nat) (r:Rd):(cutR k r).s.length = r.s.length - k:=by simp [cutR]
theorem qhi {p s:List UInt8} (h:pfx p s = true):p.length≤s.length:=by
 simp only [pfx,decide_eq_true_eq] at h
 have:=congrArg List.length h
 rw [List.length_take] at this
 omega
theorem qbvy {r:Rd} {p:Ty×Rd} (h:Suf r 0 p):Suf r 0 (endA p):=by
 obtain ⟨⟨j,h1⟩,h2,h3⟩:=h
 unfold endA
 repeat' split
 ·exact ⟨⟨j,h1⟩,h2,h3⟩
 ·refine ⟨⟨j + 1,by rw [cutR,h1,List.drop_drop]⟩,h2,?_⟩
  rw [qhg];dsimp only;omega
 ·exact ⟨⟨j,h1⟩,h2,h3⟩
theorem qbk6:∀ n,(∀ r,Suf r 0 (qd0 n r)∨n = 0)∧(∀ r,Suf r 0 (qfa n r)∨n = 0)∧(∀ t r,Suf r t.args.length (qms n t r))∧(∀ p k (r:Rd),Suf r k p->Suf (lvR (r.lv - 1) r) k (q1x n p)):=by
 intro n
 induction n with
 | zero =>
   refine ⟨fun r=>.inr rfl,fun r=>.inr rfl,fun t r=>?_,fun p k r h=>?_⟩
   ·rw [qms];exact ⟨⟨0,rfl⟩,rfl,Nat.le_refl _⟩
   ·rw [q1x];obtain ⟨h1,h2,h3⟩:=h;exact ⟨h1,by show p.2.lv - 1 = r.lv - 1;rw [h2],h3⟩
 | succ n ih =>
   obtain ⟨iA,iT,iM,iL⟩:=ih
   have hA0:∀ r,Suf r 0 (qd0 n r):=fun r=>by
    rcases iA r with h | rfl
    ·exact h
    ·rw [qd0];exact ⟨⟨0,rfl⟩,rfl,by show ([]:List Ty).length + _≤_;simp⟩
   have hT0:∀ r,Suf r 0 (qfa n r):=fun r=>by
    rcases iT r with h | rfl
    ·exact h
    ·rw [qfa];exact ⟨⟨0,rfl⟩,rfl,by show ([]:List Ty).length + _≤_;simp⟩
   refine ⟨fun r=>.inl ?_,fun r=>.inl ?_,fun t r=>?_,fun p k r h=>?_⟩
   ·rw [qd0]
    split
    ·have h0:(∃ j,(cutR 1 r).s = r.s.drop j)∧(cutR 1 r).lv = r.lv:=⟨⟨1,rfl⟩,rfl⟩
     exact qbvy (qhp h0 (hT0 (cutR 1 r)) (by rw [qhg];omega))
    ·exact qbas r
   ·rw [qfa]
    split
    ·exact ⟨⟨0,rfl⟩,rfl,by show ([]:List Ty).length + _≤_;simp [badR]⟩
    ·have h1:=hA0 (lvR (r.lv + 1) r)
     have h2:=iM (qd0 n (lvR (r.lv + 1) r)).1 (qd0 n (lvR (r.lv + 1) r)).2
     have h3:Suf (lvR (r.lv + 1) r) 0 (qms n (qd0 n (lvR (r.lv + 1) r)).1 (qd0 n (lvR (r.lv + 1) r)).2):=by
      refine qhp ⟨h1.1,h1.2.1⟩ h2 h1.2.2
     have h4:=iL _ 0 _ h3
     obtain ⟨⟨j,q1⟩,q2,q3⟩:=h4
     refine ⟨⟨j,q1⟩,?_,q3⟩
     rw [q2]
     show r.lv + 1 - 1 = r.lv
     omega
   ·rw [qms]
    split
    ·rename_i hc
     have hl:=qhi hc.2.2
     simp only [List.length_cons,List.length_nil] at hl
     have h1:=hA0 (cutR 1 r)
     have h2:=iM (.mk t.con t.var (t.args ++ [(qd0 n (cutR 1 r)).1])) (qd0 n (cutR 1 r)).2
     obtain ⟨⟨j,q1⟩,q2,q3⟩:=h1
     rw [qhg] at q3
     have h0:(∃ j,(qd0 n (cutR 1 r)).2.s = r.s.drop j)∧(qd0 n (cutR 1 r)).2.lv = r.lv:=⟨⟨1 + j,by rw [q1,cutR,List.drop_drop]⟩,q2⟩
     refine qhp h0 h2 ?_
     show (t.args ++ [(qd0 n (cutR 1 r)).1]).length + _≤_
     rw [List.length_append,List.length_singleton]
     omega
    ·exact ⟨⟨0,rfl⟩,rfl,Nat.le_refl _⟩
   ·rw [q1x]
    obtain ⟨⟨j,h1⟩,h2,h3⟩:=h
    split
    ·rename_i hc
     have hl:=qhi hc.2
     simp only [arrS,List.length_cons,List.length_nil] at hl
     obtain ⟨⟨i,q1⟩,q2,q3⟩:=hT0 (cutR 4 p.2)
     rw [qhg] at q3
     refine ⟨⟨j + 4 + i,?_⟩,?_,?_⟩
     ·show (qfa n (cutR 4 p.2)).2.s = _
      rw [q1,cutR,h1,List.drop_drop,List.drop_drop,← Nat.add_assoc];rfl
     ·show (qfa n (cutR 4 p.2)).2.lv - 1 = r.lv - 1
      rw [q2];show p.2.lv - 1 = _;rw [h2]
     ·show 2 + (qfa n (cutR 4 p.2)).2.s.length≤k + r.s.length
      omega
    ·exact ⟨⟨j,h1⟩,by show p.2.lv - 1 = r.lv - 1;rw [h2],h3⟩
theorem qvi {n:Nat} (hn:n≠0) (r:Rd):Suf r 0 (qd0 n r):=((qbk6 n).1 r).resolve_right hn
theorem qbbx {n:Nat} (hn:n≠0) (r:Rd):Suf r 0 (qfa n r):=((qbk6 n).2.1 r).resolve_right hn
theorem qbae (n:Nat) (t:Ty) (r:Rd):Suf r t.args.length (qms n t r):=(qbk6 n).2.2.1 t r
theorem qbyt {r:Rd} {k:Nat} {p:Ty×Rd} (h:Suf r k p) (hk:ascS r.s):ascS p.2.s:=by obtain ⟨⟨j,h1⟩,_⟩:=h;rw [h1];exact qeb hk j
end Go.Proofs.YtgglaabljlhliaaGreat
