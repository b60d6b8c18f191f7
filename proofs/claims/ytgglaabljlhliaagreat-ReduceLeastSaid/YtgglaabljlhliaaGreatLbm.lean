/- Texts of this proof, joined. -/
import Derived.Test.YtgglaabljlhliaaGreatLbk
import Derived.Test.YtgglaabljlhliaaGreatLbl
set_option linter.unusedVariables false
set_option linter.unusedSimpArgs false

/- classes: the way from one to another: the queue -/
set_option maxRecDepth 4000
namespace Go.Proofs.YtgglaabljlhliaaGreat
open Go Go.RowKit Go.V

abbrev qwn:FuncId:=73
theorem qz9:VCalls Tryz.prog qwn [] [.sl 1 (ints [])] fun H' o=>H' = []∧o = .val (.lit 1 []):=by
 refine qnp (k:=1) (Q':=fun H' o=>H' = []∧(o = .val (.lit 1 [])∨o = .val .nils)) ?_ fun H' o h=>?_
 ·refine qd5 c0d 0 (by simp) (by simp) ?_
  unfold k0d
  refine qcn (qh5 ?_)
  (refine ev_ ?_;(try with_reducible exact ti_))
  refine qcn (qcn (qo1 (l:=[⟨none,some 3,.v (.mov (.t 0))⟩]) (t:=4) (x:=.t 3) ?_))
  (refine ev_ ?_;(try with_reducible exact ti_))
  refine ⟨1,ints [],rfl,fun b hb=>?_⟩
  cases b
  ·repeat' (first | refine vs_ ?_ | ((first | refine vr_ ?_ | (refine cs_ ?_ ?_<;>intro hc) | refine cj_ ?_ | fail)<;>(try refine ev_ ?_)) | with_reducible exact ti_)
  ·repeat' (first | refine vs_ ?_ | ((first | refine vr_ ?_ | (refine cs_ ?_ ?_<;>intro hc) | refine cj_ ?_ | fail)<;>(try refine ev_ ?_)) | with_reducible exact ti_)
 ·rcases h with ⟨h,h1 | h1⟩
  ·exact .inl ⟨h,h1⟩
  ·exact .inr ⟨h1,h,rfl⟩
theorem qzi {l:List Int} (h0:l≠[]) (hl:l.length≤4294967296):VCalls Tryz.prog qwn [] [.sl 1 (ints l)] fun H' o=>H' = [.app 1 (ints l)]∧o = .val (.row 0 l.length):=by
 refine qd5 c0d 1 (by simp) (by simp) ?_
 unfold k0d
 refine qcn (qh5 ?_)
 (refine ev_ ?_;(try with_reducible exact ti_))
 refine qcn (qcn (qo1 (l:=[⟨none,some 3,.v (.mov (.t 0))⟩]) (t:=4) (x:=.t 3) ?_))
 (refine ev_ ?_;(try with_reducible exact ti_))
 refine ⟨1,ints l,rfl,fun b hb=>?_⟩
 have hcap:qbb l.length 8 = True:=eq_true (by unfold qbb;omega)
 have hln:(ints l).length≠0:=by rw [qby];exact fun h=>h0 (List.length_eq_zero_iff.1 h)
 have hln2:¬ l.length = 0:=fun h=>h0 (List.length_eq_zero_iff.1 h)
 cases b
 ·repeat' (first | refine vs_ ?_ | ((first | refine vr_ ?_ | fail)<;>(try simp only [hln2,hcap,qby,Nat.zero_add,go_sem,↓reduceIte])) | ((first | (refine cs_ ?_ ?_<;>intro hc) | refine cj_ ?_ | fail)<;>(try refine ev_ ?_)) | with_reducible exact ti_)
 ·exact absurd (hb rfl) (fun h=>hln (by rw [h];rfl))
section
variable {l:List Int} {H:List Ent} {args raws:List AV} {K:Md->AV->List Ent->Prop}
theorem qs0 (hl:l = []) (hq:K .here (.lit 1 []) H) (ha:args = [.sl 1 (ints l)]:=by rfl):DApp Tryz.prog H (.fn qwn [] []) args raws K:=by
 subst hl
 subst ha
 refine .inl ⟨_,qcu ?_,hq⟩
 rw [List.nil_append,List.append_nil]
 refine qb7 [] qz9 (by simp) trivial (by simp [AV.bds,AV.bd,qdr]) (by simp only [AV.rens,AV.ren,qff]) fun H1 o ho=>?_
 obtain ⟨rfl,rfl⟩:=ho
 exact ⟨by simp [qhy,qbi],rfl⟩
theorem q1i (h0:l≠[]) (hl:l.length≤4294967296) (hq:K (.grow none (.app 1 (ints l)) l.length) (.row H.length l.length) (H ++ [.app 1 (ints l)])) (hr:raws = [.sl 1 (ints l)]:=by rfl):DApp Tryz.prog H (.fn qwn [] []) args raws K:=by
 subst hr
 refine .inr (.inr (.inr (.inl ⟨none,.app 1 (ints l),l.length,⟨fun q hq=>(by cases hq),fun H₀ h0'=>?_⟩,hq⟩)))
 refine qcu ?_
 rw [List.nil_append,List.append_nil]
 refine qb7 [] (qzi h0 hl) (by simp) trivial (by simp [AV.bds,AV.bd,qdr]) (by simp only [AV.rens,AV.ren,qff]) fun H1 o ho=>?_
 obtain ⟨rfl,rfl⟩:=ho
 refine ⟨?_,?_⟩
 ·show H₀ ++ [(Ent.app 1 (ints l)).ren _] = H₀ ++ [_]
  rw [Ent.ren,qff]
 ·show VO.val (.row (H₀.length + (0 - 0)) _) = _
  simp
end
def stpA (p:Int×List Int):AV:=.agg [.int .i64 p.1,.sl 1 (ints p.2)]
def stps (l:List (Int×List Int)):List AV:=l.map stpA
theorem qt9 (k:Nat) (p:Int×List Int):(stpA p).bd k = true:=by simp only [stpA,AV.bd,AV.bds,qdr,Bool.and_true]
theorem qhx (a:Int) (p:List Int):AV.agg [.int .i64 a,.sl 1 (ints p)] = stpA (a,p):=rfl
theorem qz1 (p:Int×List Int):(stpA p).cells = [.int .i64 p.1,.sl 1 (ints p.2)]:=rfl
theorem qd2 (l:List (Int×List Int)):(stps l).length = l.length:=by simp [stps]
theorem q03 (k:Nat) (l:List (Int×List Int)):AV.bds k (stps l) = true:=by rw [stps,qb9,List.all_map,List.all_eq_true];exact fun x _=>qt9 k x
theorem qbcu (σ:Nat->Nat) (l:List (Int×List Int)):AV.rens σ (stps l) = stps l:=ql (m:=0) (fun i hi=>by omega) _ (q03 0 l)
theorem q91 (σ:Nat->Nat) (p:Int×List Int):(stpA p).ren σ = stpA p:=ren_same (m:=0) (fun i hi=>by omega) _ (qt9 0 p)
theorem qio (l:List (Int×List Int)) (p:Int×List Int):stps l ++ [stpA p] = stps (l ++ [p]):=by simp [stps]
theorem qbc7 (p:Int×List Int):[stpA p] = stps [p]:=rfl
theorem qbam {l:List (Int×List Int)} {i:Nat} (h:i < l.length):(stps l).getD i .junk = stpA (l.getD i (0,[])):=by
 rw [stps,List.getD_eq_getElem?_getD,List.getElem?_map,List.getElem?_eq_getElem h,List.getD_eq_getElem?_getD,List.getElem?_eq_getElem h];rfl
theorem q87 (b:Bool) (n off:Nat) (p:Int×List Int):fldv b n off (stpA p) = ldc b n off [.int .i64 p.1,.sl 1 (ints p.2)]:=rfl
theorem q7o (p:Int×List Int):(stpA p).isAgg = true:=rfl
theorem qsy (p:Int×List Int):(stpA p).leaf = false:=rfl
theorem qbop (H:List Ent) (p:Int×List Int):co H (.agg [.id,.sl 1]) (stpA p) = stpA p:=by simp only [stpA,qh9,qdz,qfh,ql2,qd1]
attribute [go_sem] qt9 qz1 qd2 q03 qbcu q91 q87 q7o qsy qbop
def nxtP (l:List Cls) (p:List Int):List (List UInt8)->Nat->List (Int×List Int)
 | [],_=>[]
 | s :: r,k=>(atC s l 0,p ++ [(k:Int)]) :: nxtP l p r (k + 1)
def pthF (l:List Cls) (b:Int):Nat->List (Int×List Int)->List Bool->List Int×Bool
 | 0,_,_=>([],false)
 | _ + 1,[],_=>([],false)
 | f + 1,(c,p) :: q,seen=>if c = b then (p,true) else if seen.getD c.toNat true = true then pthF l b f q seen else pthF l b f (q ++ nxtP l p (l.getD c.toNat C0).sup 0) (seen.set c.toNat true)
def pthC (l:List Cls) (u v:List UInt8):List Int×Bool :=
 if atC u l 0 < 0 then ([],false) else if atC v l 0 < 0 then ([],false) else if (chkC l).2 = 0 then pthF l (atC v l 0) 200 [(atC u l 0,[])] (List.replicate l.length false) else ([],false)
theorem qn8 (l:List Cls) (p:List Int):∀ (s:List (List UInt8)) (k:Nat),(nxtP l p s k).length = s.length
 | [],k=>rfl
 | s :: r,k=>by rw [nxtP,List.length_cons,qn8 l p r,List.length_cons]
theorem qqh (l:List Cls) (p:List Int):∀ (r:List (List UInt8)) (s:List UInt8) (k:Nat),nxtP l p (r ++ [s]) k = nxtP l p r k ++ [(atC s l 0,p ++ [((k + r.length:Nat):Int)])]
 | [],s,k=>by simp [nxtP]
 | x :: r, s, k => by
   rw [List.cons_append,nxtP,nxtP,qqh l p r s (k + 1),List.cons_append,List.length_cons,show k + 1 + r.length = k + (r.length + 1) by omega]
theorem qbd9 {l:List Cls}:∀ {pre s:List (List UInt8)},knC l pre s = true->∀ x∈s,0≤atC x l 0
 | pre,[],_,x,hx=>by cases hx
 | pre, y :: r, h, x, hx => by
   rw [knC] at h
   split at h
   ·cases h
   ·split at h
    ·cases h
    ·rcases List.mem_cons.1 hx with rfl | hx
     ·omega
     ·exact qbd9 h x hx
theorem q6i {l:List Cls}:∀ {r:List Cls} {i:Nat},c2 l r i = none->∀ c∈r,knC l [] c.sup = true
 | [],i,_,c,hc=>by cases hc
 | x :: r, i, h, c, hc => by
   rw [c2] at h
   split at h
   ·rename_i hx
    rcases List.mem_cons.1 hc with rfl | hc
    ·exact hx
    ·exact q6i h c hc
   ·cases h
theorem qb1b {l:List Cls} (h:(chkC l).2 = 0):∀ c∈l,∀ s∈c.sup,0≤atC s l 0:=fun c hc s hs=>by
 refine qbd9 (q6i (l:=l) (r:=l) (i:=0) ?_ c hc) s hs
 unfold chkC at h
 cases h1:c1 l l 0 with
 | some i=>rw [h1] at h;cases h
 | none =>
   rw [h1] at h
   cases h2:c2 l l 0 with
   | some i=>rw [h2] at h;cases h
   | none=>rfl
theorem qbus {l:List Cls} {s:List UInt8} (h:0≤atC s l 0):(atC s l 0).toNat < l.length∧atC s l 0 = ((atC s l 0).toNat:Int):=by
 rcases qbdx s l 0 with h1 | ⟨k,h1,h2,h3⟩
 ·omega
 ·rw [h2] at h ⊢;simp;omega
set_option maxRecDepth 4000

def rwV (r:Nat) (row:List (Int×List Int)):AV:=if row.length = 1 then .lit 2 (stps row) else .row r row.length
def rwE (row:List (Int×List Int)):List Ent:=if row.length = 1 then [] else [.app 2 (stps row)]
theorem qjz {r:Nat} {row:List (Int×List Int)} (h:row.length = 1):rwV r row = .lit 2 (stps row):=if_pos h
theorem qhw {r:Nat} {row:List (Int×List Int)} (h:row.length≠1):rwV r row = .row r row.length:=if_neg h
theorem qj0 {row:List (Int×List Int)} (h:row.length = 1):rwE row = []:=if_pos h
theorem qia {row:List (Int×List Int)} (h:row.length≠1):rwE row = [.app 2 (stps row)]:=if_neg h
structure PQ where
 f:Nat
 i:Nat
 row:List (Int×List Int)
 seen:List Bool
structure PI (l:List Cls) (b:Int) (res:List Int×Bool) (s:PQ):Prop where
 za:s.seen.length = l.length
 zb:s.i≤s.row.length
 zc:s.row≠[]
 zd:∀ p∈s.row,0≤p.1∧p.1 < l.length
 ze:∀ (j:Nat),j < s.row.length->(s.row.getD j (0,[])).2.length≤j
 zf:s.row.length + 10 * unm s.seen≤100
 zg:(s.row.length - s.i) + 10 * unm s.seen < s.f
 zh:pthF l b s.f (s.row.drop s.i) s.seen = res
def pqSt (l:List Cls) (b:Int) (s:PQ):AF×List Ent :=
 (⟨[(0,.sl 3 (qbs l)),(9,.int .i64 b),(10,.row 0 l.length),(11,rwV 1 s.row),(12,.int .i64 s.i)],[]⟩,.mrow 1 (bl s.seen) :: rwE s.row)
def pq2 (l:List Cls) (b:Int) (i:Nat) (c:Int) (p:List Int) (row:List (Int×List Int)) (seen:List Bool) (sup:List (List UInt8)) (k:Nat):AF×List Ent :=
 (⟨[(0,.sl 3 (qbs l)),(9,.int .i64 b),(10,.row 0 l.length),(11,rwV 2 (row ++ nxtP l p (sup.take k) 0)),(12,.int .i64 i),(13,.ptr 1 0),(69,.sl 1 (sup.map AV.str)),(70,.int .i64 sup.length),(71,.int .i64 k)],[]⟩,.mrow 1 (bl seen) :: .blk [.int .i64 c,.sl 1 (ints p)] :: rwE (row ++ nxtP l p (sup.take k) 0))
theorem qb36 {l:List (Int×List Int)} {i:Nat} (h:i < l.length):l.drop i = l.getD i (0,[]) :: l.drop (i + 1):=by
 rw [List.drop_eq_getElem_cons h,List.getD_eq_getElem?_getD,List.getElem?_eq_getElem h];rfl
theorem q38 {l:List (Int×List Int)} {i:Nat} (h:i < l.length):l.getD i (0,[])∈l:=by
 rw [List.getD_eq_getElem?_getD,List.getElem?_eq_getElem h];exact List.getElem_mem h
theorem capQ {n:Nat} (h:n≤1000):qbb n 32:=by unfold qbb;omega
theorem qj9 {l:List Cls} {p:List Int}:∀ {sup:List (List UInt8)} {k:Nat} {q:Int×List Int},q∈nxtP l p sup k->∃ s∈sup,q.1 = atC s l 0∧q.2.length = p.length + 1
 | [],_,q,h=>by cases h
 | s :: r, k, q, h => by
   rw [nxtP] at h
   rcases List.mem_cons.1 h with rfl | h
   ·exact ⟨s,by simp,rfl,by simp⟩
   ·obtain ⟨s',h1,h2,h3⟩:=qj9 h
    exact ⟨s',by simp [h1],h2,h3⟩
set_option maxHeartbeats 2000000 in
theorem qmc {l:List Cls} (hf:fewC l) (u v:List UInt8):qk Tryz.prog 43 [.sl 3 (qbs l),.str u,.str v] (.tup [.sl 1 (ints (pthC l u v).1),.bool (pthC l u v).2]):=by
 refine qd c0c (by simp) (by simp only [go_sem]) (by simp only [AV.bd,AV.bds,qdr];rfl) fun hw=>?_
 have hl:l.length≤maxLen:=(qgu hw.1).1
 have hau:=qez l u
 have hav:=qez l v
 have hS:=qst hf
 have hu:=qbus (l:=l) (s:=u)
 have hv:=qbus (l:=l) (s:=v)
 have hca:=qb1b (l:=l)
 unfold pthC
 generalize atC u l 0 = a at *
 generalize atC v l 0 = b at *
 unfold k0c
 generalize hz:IC.seq qbef _ = z4
 by_cases ha:a < 0
 ·rw [if_pos ha]
  repeat' (first | refine vs_ ?_ | ((first | refine vr_ ?_ | fail)<;>(try simp only [ha,go_sem,↓reduceIte])) | ((first | (refine cs_ ?_ ?_<;>intro hc) | refine cj_ ?_ | simp (disch:=omega) only [encs_getN,qb] | refine qa hau fun _=>?_ | refine qa hav fun _=>?_ | refine qc hau ?_ | refine qc hav ?_)<;>(try refine ev_ ?_)) | with_reducible exact ti_)
  all_goals rfl
 rw [if_neg ha]
 by_cases hb:b < 0
 ·rw [if_pos hb]
  repeat' (first | refine vs_ ?_ | ((first | refine vr_ ?_ | fail)<;>(try simp only [ha,hb,go_sem,↓reduceIte])) | ((first | (refine cs_ ?_ ?_<;>intro hc) | refine cj_ ?_ | simp (disch:=omega) only [encs_getN,qb] | refine qa hau fun _=>?_ | refine qa hav fun _=>?_ | refine qc hau ?_ | refine qc hav ?_)<;>(try refine ev_ ?_)) | with_reducible exact ti_)
  all_goals rfl
 rw [if_neg hb]
 by_cases hc0:(chkC l).2 = 0
 case neg =>
  rw [if_neg hc0]
  rw [decide_eq_false hc0] at hS
  repeat' (first | refine vs_ ?_ | ((first | refine vr_ ?_ | fail)<;>(try simp only [ha,hb,go_sem,↓reduceIte])) | ((first | (refine cs_ ?_ ?_<;>intro hc) | refine cj_ ?_ | simp (disch:=omega) only [encs_getN,qb] | refine qa hau fun _=>?_ | refine qa hav fun _=>?_ | refine qa hS fun _=>?_ | refine qc hau ?_ | refine qc hav ?_ | refine qc hS ?_)<;>(try refine ev_ ?_)) | with_reducible exact ti_)
  all_goals rfl
 rw [if_pos hc0]
 rw [decide_eq_true hc0] at hS
 have hca:=hca hc0
 obtain ⟨hu1,hu2⟩:=hu (by omega)
 generalize hres:pthF l b 200 [(a,[])] (List.replicate l.length false) = res
 have hf1:=hf.1
 have hcapb:qbb l.length 1:=by unfold qbb;omega
 repeat' (first | refine vs_ ?_ | ((first | refine vr_ ?_ | fail)<;>(try simp only [ha,hb,go_sem,↓reduceIte])) | ((first | (refine cs_ ?_ ?_<;>intro hc) | refine cj_ ?_ | simp (disch:=omega) only [encs_getN,qb] | refine qa hau fun _=>?_ | refine qa hav fun _=>?_ | refine qa hS fun _=>?_ | refine qc hau ?_ | refine qc hav ?_ | refine qc hS ?_)<;>(try refine ev_ ?_)) | with_reducible exact ti_)
 subst hz
 repeat' (first | refine vs_ ?_ | ((first | refine vr_ ?_ | fail)<;>(try simp only [ha,hb,go_sem,↓reduceIte])) | ((first | (refine cs_ ?_ ?_<;>intro hc) | refine cj_ ?_ | simp (disch:=omega) only [encs_getN,qb])<;>(try refine ev_ ?_)) | with_reducible exact ti_)
 refine qj (S:=PQ) (PI l b res) (pqSt l b) (fun s=>s.f) ?_ fun s hs=>?_
 ·have hun:unm (List.replicate l.length false) = l.length:=by
   unfold unm
   rw [List.countP_replicate];rfl
  have h0:PI l b res ⟨200,0,[(a,[])],List.replicate l.length false⟩:=by
   refine ⟨by simp,by simp,by simp,?_,?_,?_,?_,hres⟩
   ·intro p hp
    simp only [List.mem_singleton] at hp
    subst hp
    dsimp only
    omega
   ·intro j hj
    have:j = 0:=by simp at hj;omega
    subst this
    simp
   ·dsimp only;rw [hun];simp;omega
   ·dsimp only;rw [hun];simp;omega
  have hbr:List.replicate l.length (AV.bool false) = bl (List.replicate l.length false):=by rw [bl,List.map_replicate]
  refine qf ⟨200,0,[(a,[])],List.replicate l.length false⟩ [0] h0 rfl (by simp) ?_ ?_ ?_
  all_goals (simp only [pqSt,qjz (row:=[(a,[])]) rfl,qj0 (row:=[(a,[])]) rfl,hbr,← qbc7]<;>(try refine ev_ ?_)<;>(try with_reducible exact ti_)<;>(try simp (disch:=omega) only [qb,and_true,true_and]))
  all_goals rfl
 ·obtain ⟨f,i,row,seen⟩:=s
  obtain ⟨za,zb,zc,zd,ze,zf,zg,zh⟩:=hs
  dsimp only at za zb zc zd ze zf zg zh
  unfold pqSt
  dsimp only
  have hrm:row.length≤maxLen:=by unfold maxLen;omega
  by_cases hlt:i < row.length
  ·obtain ⟨f,rfl⟩:∃ f',f = f' + 1:=⟨f - 1,by omega⟩
   rw [qb36 hlt] at zh
   obtain ⟨hc1,hc2⟩:=zd _ (q38 hlt)
   have hpl:=ze i hlt
   have hg:=qbam hlt
   generalize row.getD i (0,[]) = cp at *
   obtain ⟨c,p⟩:=cp
   dsimp only at hc1 hc2 hpl
   obtain ⟨k,rfl⟩:∃ k:Nat,c = k:=⟨c.toNat,by omega⟩
   rw [pthF] at zh
   have hkl:k < seen.length:=by omega
   have hgb:=q4b hkl
   have hkn:(k:Int).toNat = k:=by simp
   rw [hkn] at zh
   by_cases hcb:(k:Int) = b
   ·rw [if_pos hcb] at zh
    by_cases hr1:row.length = 1
    ·simp only [qjz hr1,qj0 hr1]
     repeat' (first | refine vs_ ?_ | ((first | refine vr_ ?_ | fail)<;>(try simp (disch:=first | omega | (simp only [List.length_set,List.length_append,List.length_cons,List.length_nil];done) | (simp only [List.length_set,List.length_append,List.length_cons,List.length_nil];omega)) only [hg,hcb,qb,qd2,go_sem,↓reduceIte])) | ((first | simp (disch:=omega) only [hg] | (refine cs_ ?_ ?_<;>intro hc) | refine cj_ ?_ | simp (disch:=omega) only [encs_getN,qb])<;>(try refine ev_ ?_)) | with_reducible exact ti_)
     all_goals first | (exfalso;omega) | (rw [← zh])
    ·simp only [qhw hr1,qia hr1]
     repeat' (first | refine vs_ ?_ | ((first | refine vr_ ?_ | fail)<;>(try simp (disch:=first | omega | (simp only [List.length_set,List.length_append,List.length_cons,List.length_nil];done) | (simp only [List.length_set,List.length_append,List.length_cons,List.length_nil];omega)) only [hg,hcb,qb,qd2,go_sem,↓reduceIte])) | ((first | simp (disch:=omega) only [hg] | (refine cs_ ?_ ?_<;>intro hc) | refine cj_ ?_ | simp (disch:=omega) only [encs_getN,qb])<;>(try refine ev_ ?_)) | with_reducible exact ti_)
     all_goals first | (exfalso;omega) | (rw [← zh])
   rw [if_neg hcb] at zh
   have hk2:(k:Int) < (l.length:Int):=hc2
   cases hmk:seen.getD k true with
   | true =>
     rw [hmk] at hgb zh
     rw [if_pos rfl] at zh
     have hnx:PI l b res ⟨f,i + 1,row,seen⟩:=⟨za,by dsimp only;omega,zc,zd,ze,zf,by dsimp only;omega,zh⟩
     by_cases hr1:row.length = 1
     ·simp only [qjz hr1,qj0 hr1]
      repeat' (first | refine vs_ ?_ | ((first | refine vr_ ?_ | fail)<;>(try simp (disch:=first | omega | (simp only [List.length_set,List.length_append,List.length_cons,List.length_nil];done) | (simp only [List.length_set,List.length_append,List.length_cons,List.length_nil];omega)) only [hg,hcb,hgb,hkn,hk2,hc1,hkl,qer,qb,qd2,go_sem,↓reduceIte])) | ((first | simp (disch:=omega) only [hg] | (refine cs_ ?_ ?_<;>intro hc) | refine cj_ ?_ | simp (disch:=omega) only [encs_getN,qb])<;>(try refine ev_ ?_)) | with_reducible exact ti_)
      all_goals try (exfalso;omega)
      refine qf ⟨f,i + 1,row,seen⟩ [0] ⟨hnx,by dsimp only;omega⟩ rfl (by simp) ?_ ?_ ?_
      all_goals (simp only [pqSt,qjz hr1,qj0 hr1]<;>(try refine ev_ ?_)<;>(try with_reducible exact ti_)<;>(try simp (disch:=omega) only [qb,and_true,true_and]))
      all_goals trace_state
     ·simp only [qhw hr1,qia hr1]
      repeat' (first | refine vs_ ?_ | ((first | refine vr_ ?_ | fail)<;>(try simp (disch:=first | omega | (simp only [List.length_set,List.length_append,List.length_cons,List.length_nil];done) | (simp only [List.length_set,List.length_append,List.length_cons,List.length_nil];omega)) only [hg,hcb,hgb,hkn,hk2,hc1,hkl,qer,qb,qd2,go_sem,↓reduceIte])) | ((first | simp (disch:=omega) only [hg] | (refine cs_ ?_ ?_<;>intro hc) | refine cj_ ?_ | simp (disch:=omega) only [encs_getN,qb])<;>(try refine ev_ ?_)) | with_reducible exact ti_)
      all_goals try (exfalso;omega)
      refine qf ⟨f,i + 1,row,seen⟩ [0,1] ⟨hnx,by dsimp only;omega⟩ rfl (by simp) ?_ ?_ ?_
      all_goals (simp only [pqSt,qhw hr1,qia hr1]<;>(try refine ev_ ?_)<;>(try with_reducible exact ti_)<;>(try simp (disch:=omega) only [qb,and_true,true_and]))
      all_goals trace_state
   | false =>
     rw [hmk] at hgb zh
     rw [if_neg (by simp)] at zh
     have hun:=q5i hkl hmk
     have hkl2:k < l.length:=by omega
     have hgc:=qd7 hkl2
     have hsl:=hf.2 _ (qj2 hkl2)
     have hcs:=hca _ (qj2 hkl2)
     generalize l.getD k C0 = cl at *
     obtain ⟨nm,sup,ms,hms⟩:=cl
     dsimp only at hsl hcs zh
     have hsm:sup.length≤maxLen:=by unfold maxLen;omega
     have hp0:row.length = 1->p = []:=fun h=>List.length_eq_zero_iff.1 (by omega)
     have hrl:row.length≤100:=by omega
     generalize hse:seen.set k true = seen' at *
     have inner:∀ Q:VE->AF->List Ent->Prop,Q (.ext 2) ⟨(72,.bool false) :: (pq2 l b i k p row seen' sup sup.length).1.tm,[]⟩ (pq2 l b i k p row seen' sup sup.length).2->VI Tryz.prog none 90 0 (.loop q5g) Q (pq2 l b i k p row seen' sup 0).1 (pq2 l b i k p row seen' sup 0).2:=fun Q hQ=>by
      refine qj (S:=Nat) (fun j=>j≤sup.length) (pq2 l b i k p row seen' sup) (fun j=>sup.length - j) ?_ fun j hj=>?_
      ·by_cases hr1:row.length = 1
       ·refine qf 0 [0,1] (Nat.zero_le _) rfl (by simp) ?_ ?_ ?_
        all_goals (simp only [pq2,List.take_zero,nxtP,List.append_nil,qjz hr1,qj0 hr1]<;>(try refine ev_ ?_)<;>(try with_reducible exact ti_)<;>(try simp (disch:=omega) only [qb,and_true,true_and]))
       ·refine qf 0 [0,1,2] (Nat.zero_le _) rfl (by simp) ?_ ?_ ?_
        all_goals (simp only [pq2,List.take_zero,nxtP,List.append_nil,qhw hr1,qia hr1]<;>(try refine ev_ ?_)<;>(try with_reducible exact ti_)<;>(try simp (disch:=omega) only [qb,and_true,true_and]))
      by_cases hjl:j < sup.length
      ·have hat:=qez l (sup.getD j [])
       have hsn:nxtP l p (sup.take (j + 1)) 0 = nxtP l p (sup.take j) 0 ++ [(atC (sup.getD j []) l 0,p ++ [(j:Int)])]:=by
        rw [List.take_add_one,List.getElem?_eq_getElem hjl,List.getD_eq_getElem?_getD,List.getElem?_eq_getElem hjl]
        show nxtP l p (sup.take j ++ [sup[j]]) 0 = _
        rw [qqh,List.length_take,Nat.min_eq_left (Nat.le_of_lt hjl),Nat.zero_add];rfl
       have hnl:=qn8 l p (sup.take j) 0
       rw [List.length_take] at hnl
       have hsn:row ++ nxtP l p (sup.take (j + 1)) 0 = (row ++ nxtP l p (sup.take j) 0) ++ [(atC (sup.getD j []) l 0,p ++ [(j:Int)])]:=by rw [hsn,List.append_assoc]
       have hr2l:(row ++ nxtP l p (sup.take j) 0).length≤200:=by rw [List.length_append];omega
       have hr2p:(row ++ nxtP l p (sup.take j) 0).length = 1->p = []:=fun h=>hp0 (by rw [List.length_append] at h;have:0 < row.length:=(by omega);omega)
       have hrp:0 < (row ++ nxtP l p (sup.take j) 0).length:=by rw [List.length_append];omega
       unfold pq2
       generalize row ++ nxtP l p (sup.take j) 0 = row2 at *
       generalize atC (sup.getD j []) l 0 = x at *
       have hcap1:qbb 1 8:=capI (by omega)
       have hcap2:qbb (p.length + 1) 8:=capI (by omega)
       have hcap3:qbb (row2.length + 1) 32:=capQ (by omega)
       have hne:(row2 ++ [(x,p ++ [(j:Int)])]).length≠1:=by rw [List.length_append,List.length_cons,List.length_nil];omega
       by_cases hr1:row2.length = 1
       ·have hpn:=hr2p hr1
        subst hpn
        have hne:(row2 ++ [(x,[] ++ [(j:Int)])]).length≠1:=by rw [List.length_append,hr1];simp
        have hcap4:qbb (1 + 1) 32:=capQ (by omega)
        rw [List.nil_append] at hsn hne
        simp only [qjz hr1,qj0 hr1]
        repeat' (first | refine vs_ ?_ | ((first | refine vr_ ?_ | fail)<;>(try simp (disch:=first | omega | (simp only [List.length_set,List.length_append,List.length_cons,List.length_nil];done) | (simp only [List.length_set,List.length_append,List.length_cons,List.length_nil];omega)) only [qb,go_sem,↓reduceIte])) | ((first | simp (disch:=omega) only [qch] | (refine cs_ ?_ ?_<;>intro hc) | refine cj_ ?_ | simp (disch:=omega) only [encs_getN,qb] | refine qa hat fun _=>?_ | refine qc hat ?_)<;>(try refine ev_ ?_)) | with_reducible exact ti_)
        rotate_left 1
        ·exfalso;omega
        refine qs0 rfl ?_
        repeat' (first | refine vs_ ?_ | ((first | refine vr_ ?_ | fail)<;>(try simp (disch:=first | omega | (simp only [List.length_set,List.length_append,List.length_cons,List.length_nil];done) | (simp only [List.length_set,List.length_append,List.length_cons,List.length_nil];omega)) only [qb,qj6,qhx,hr1,go_sem,↓reduceIte])) | ((first | simp (disch:=omega) only [hcap1] | simp (disch:=omega) only [hcap2] | simp (disch:=omega) only [hcap3] | simp (disch:=omega) only [hcap4] | (refine cs_ ?_ ?_<;>intro hc) | refine cj_ ?_ | simp (disch:=omega) only [encs_getN,qb])<;>(try refine ev_ ?_)) | with_reducible exact ti_)
        refine qf (j + 1) [0,1,3] ⟨by omega,by omega⟩ rfl (by simp) ?_ ?_ ?_
        all_goals (simp only [pq2,hsn,qhw hne,qia hne,List.length_append,List.length_cons,List.length_nil]<;>(try refine ev_ ?_)<;>(try with_reducible exact ti_)<;>(try simp (disch:=omega) only [qb,and_true,true_and]))
        all_goals first | (rw [qio]) | (rw [hr1]) | trace_state
       ·simp only [qhw hr1,qia hr1]
        by_cases hpn:p = []
        ·subst hpn
         rw [List.nil_append] at hsn hne
         repeat' (first | refine vs_ ?_ | ((first | refine vr_ ?_ | fail)<;>(try simp (disch:=first | omega | (simp only [List.length_set,List.length_append,List.length_cons,List.length_nil];done) | (simp only [List.length_set,List.length_append,List.length_cons,List.length_nil];omega)) only [qb,go_sem,↓reduceIte])) | ((first | simp (disch:=omega) only [qch] | (refine cs_ ?_ ?_<;>intro hc) | refine cj_ ?_ | simp (disch:=omega) only [encs_getN,qb] | refine qa hat fun _=>?_ | refine qc hat ?_)<;>(try refine ev_ ?_)) | with_reducible exact ti_)
         rotate_left 1
         ·exfalso;omega
         refine qs0 rfl ?_
         repeat' (first | refine vs_ ?_ | ((first | refine vr_ ?_ | fail)<;>(try simp (disch:=first | omega | (simp only [List.length_set,List.length_append,List.length_cons,List.length_nil];done) | (simp only [List.length_set,List.length_append,List.length_cons,List.length_nil];omega)) only [qb,qj6,qhx,go_sem,↓reduceIte])) | ((first | simp (disch:=omega) only [hcap1] | simp (disch:=omega) only [hcap2] | simp (disch:=omega) only [hcap3] | (refine cs_ ?_ ?_<;>intro hc) | refine cj_ ?_ | simp (disch:=omega) only [encs_getN,qb])<;>(try refine ev_ ?_)) | with_reducible exact ti_)
         refine qf (j + 1) [0,1,4] ⟨by omega,by omega⟩ rfl (by simp) ?_ ?_ ?_
         all_goals (simp only [pq2,hsn,qhw hne,qia hne,List.length_append,List.length_cons,List.length_nil]<;>(try refine ev_ ?_)<;>(try with_reducible exact ti_)<;>(try simp (disch:=omega) only [qb,and_true,true_and]))
         all_goals first | (rw [qio]) | trace_state
        ·repeat' (first | refine vs_ ?_ | ((first | refine vr_ ?_ | fail)<;>(try simp (disch:=first | omega | (simp only [List.length_set,List.length_append,List.length_cons,List.length_nil];done) | (simp only [List.length_set,List.length_append,List.length_cons,List.length_nil];omega)) only [qb,go_sem,↓reduceIte])) | ((first | simp (disch:=omega) only [qch] | (refine cs_ ?_ ?_<;>intro hc) | refine cj_ ?_ | simp (disch:=omega) only [encs_getN,qb] | refine qa hat fun _=>?_ | refine qc hat ?_)<;>(try refine ev_ ?_)) | with_reducible exact ti_)
         rotate_left 1
         ·exfalso;omega
         refine q1i hpn (by omega) ?_
         repeat' (first | refine vs_ ?_ | ((first | refine vr_ ?_ | fail)<;>(try simp (disch:=first | omega | (simp only [List.length_set,List.length_append,List.length_cons,List.length_nil];done) | (simp only [List.length_set,List.length_append,List.length_cons,List.length_nil];omega)) only [qb,qj6,qby,qhj,qhx,go_sem,↓reduceIte])) | ((first | simp (disch:=omega) only [hcap1] | simp (disch:=omega) only [hcap2] | simp (disch:=omega) only [hcap3] | (refine cs_ ?_ ?_<;>intro hc) | refine cj_ ?_ | simp (disch:=omega) only [encs_getN,qb])<;>(try refine ev_ ?_)) | with_reducible exact ti_)
         refine qf (j + 1) [0,1,5] ⟨by omega,by omega⟩ rfl (by simp) ?_ ?_ ?_
         all_goals (simp only [pq2,hsn,qhw hne,qia hne,List.length_append,List.length_cons,List.length_nil]<;>(try refine ev_ ?_)<;>(try with_reducible exact ti_)<;>(try simp (disch:=omega) only [qb,and_true,true_and]))
         all_goals first | (rw [qio]) | (rw [q75,qhx,qio]) | trace_state
      ·have hje:j = sup.length:=by omega
       subst hje
       have hlt':¬ (sup.length:Int) < (sup.length:Int):=by omega
       unfold pq2 at hQ ⊢
       dsimp only at hQ ⊢
       generalize row ++ nxtP l p (sup.take sup.length) 0 = row3 at *
       by_cases hr1:row3.length = 1
       ·simp only [qjz hr1,qj0 hr1] at hQ ⊢
        repeat' (first | refine vs_ ?_ | ((first | refine vr_ ?_ | fail)<;>(try simp (disch:=first | omega | (simp only [List.length_set,List.length_append,List.length_cons,List.length_nil];done) | (simp only [List.length_set,List.length_append,List.length_cons,List.length_nil];omega)) only [qb,hlt',go_sem,↓reduceIte])) | ((first | (refine cs_ ?_ ?_<;>intro hc) | refine cj_ ?_ | simp (disch:=omega) only [encs_getN,qb])<;>(try refine ev_ ?_)) | with_reducible exact ti_)
        all_goals first | exact hQ | trace_state
       ·simp only [qhw hr1,qia hr1] at hQ ⊢
        repeat' (first | refine vs_ ?_ | ((first | refine vr_ ?_ | fail)<;>(try simp (disch:=first | omega | (simp only [List.length_set,List.length_append,List.length_cons,List.length_nil];done) | (simp only [List.length_set,List.length_append,List.length_cons,List.length_nil];omega)) only [qb,hlt',go_sem,↓reduceIte])) | ((first | (refine cs_ ?_ ?_<;>intro hc) | refine cj_ ?_ | simp (disch:=omega) only [encs_getN,qb])<;>(try refine ev_ ?_)) | with_reducible exact ti_)
        all_goals first | exact hQ | trace_state
     have hpg:PI l b res ⟨f,i + 1,row ++ nxtP l p (sup.take sup.length) 0,seen'⟩:=by
      rw [List.take_of_length_le (Nat.le_refl _)]
      have hnl:=qn8 l p sup 0
      have hsl':seen'.length = seen.length:=by rw [← hse];simp
      refine ⟨by dsimp only;omega,by dsimp only;rw [List.length_append];omega,by simp [zc],?_,?_,?_,?_,?_⟩
      ·intro q hq
       rcases List.mem_append.1 hq with hq | hq
       ·exact zd q hq
       ·obtain ⟨s,hs,h1,_⟩:=qj9 hq
        rw [h1]
        obtain ⟨g1,g2⟩:=qbus (hcs s hs)
        omega
      ·intro m hm
       dsimp only at hm ⊢
       rw [List.length_append] at hm
       by_cases hmr:m < row.length
       ·rw [List.getD_eq_getElem?_getD,List.getElem?_append_left hmr,← List.getD_eq_getElem?_getD]
        exact ze m hmr
       ·rw [List.getD_eq_getElem?_getD,List.getElem?_append_right (by omega),List.getElem?_eq_getElem (by omega)]
        obtain ⟨s,hs,_,h2⟩:=qj9 (List.getElem_mem (l:=nxtP l p sup 0) (show m - row.length < (nxtP l p sup 0).length by omega))
        show (nxtP l p sup 0)[m - row.length].2.length≤m
        rw [h2];omega
      ·dsimp only;rw [List.length_append];omega
      ·dsimp only;rw [List.length_append];omega
      ·dsimp only
       rw [List.drop_append_of_le_length (by omega)]
       exact zh
     have hfin:∀ (T:List (Nat×AV)) (row3:List (Int×List Int)),PI l b res ⟨f,i + 1,row3,seen'⟩->V.get T 0 = .sl 3 (qbs l)->V.get T 9 = .int .i64 b->V.get T 10 = .row 0 l.length->V.get T 11 = rwV 2 row3->V.get T 12 = .int .i64 ((i + 1:Nat):Int) →
      At PQ (fun s'=>PI l b res s'∧s'.f < f + 1) (pqSt l b) 0 ⟨T,[]⟩ (.mrow 1 (bl seen') :: .blk [.int .i64 k,.sl 1 (ints p)] :: rwE row3):=fun T row3 h3 t0 t9 t10 t11 t12=>by
      by_cases hr1:row3.length = 1
      ·rw [qj0 hr1]
       rw [qjz hr1] at t11
       refine qf ⟨f,i + 1,row3,seen'⟩ [0] ⟨h3,by dsimp only;omega⟩ rfl (by simp) ?_ ?_ ?_
       all_goals (simp only [pqSt,qjz hr1,qj0 hr1]<;>(try refine ev_ ?_)<;>(try with_reducible exact ti_)<;>(try simp (disch:=omega) only [qb,and_true,true_and]))
       all_goals simp only [t0,t9,t10,t11,t12,and_self]
      ·rw [qia hr1]
       rw [qhw hr1] at t11
       refine qf ⟨f,i + 1,row3,seen'⟩ [0,2] ⟨h3,by dsimp only;omega⟩ rfl (by simp) ?_ ?_ ?_
       all_goals (simp only [pqSt,qhw hr1,qia hr1]<;>(try refine ev_ ?_)<;>(try with_reducible exact ti_)<;>(try simp (disch:=omega) only [qb,and_true,true_and]))
       all_goals simp only [t0,t9,t10,t11,t12,and_self]
     have hsup:sup.length≤maxLen:=hsm
     by_cases hr1:row.length = 1
     ·simp only [qjz hr1,qj0 hr1]
      repeat' (first | refine vs_ ?_ | ((first | refine vr_ ?_ | fail)<;>(try simp (disch:=first | omega | (simp only [List.length_set,List.length_append,List.length_cons,List.length_nil];done) | (simp only [List.length_set,List.length_append,List.length_cons,List.length_nil];omega)) only [hg,hcb,hgb,hkn,hk2,hc1,hkl,hgc,hse,qer,qvq,qb,qd2,go_sem,↓reduceIte])) | ((first | simp (disch:=omega) only [hg] | (refine cs_ ?_ ?_<;>intro hc) | refine cj_ ?_ | simp (disch:=omega) only [encs_getN,qb])<;>(try refine ev_ ?_)) | with_reducible exact ti_)
      all_goals try (exfalso;omega)
      refine qpy (S:=Unit) (Inv:=fun _=>True) (st:=fun _=>pq2 l b i k p row seen' sup 0) ?_ fun _ _=>inner _ ?_
      ·refine qf () [0,1] trivial rfl (by simp) ?_ ?_ ?_
       all_goals (simp only [pq2,List.take_zero,nxtP,List.append_nil,qjz hr1,qj0 hr1]<;>(try refine ev_ ?_)<;>(try with_reducible exact ti_)<;>(try simp (disch:=omega) only [qb,and_true,true_and]))
       all_goals trace_state
      ·unfold pq2
       dsimp only
       generalize row ++ nxtP l p (sup.take sup.length) 0 = row3 at *
       repeat' (first | refine vs_ ?_ | ((first | refine vr_ ?_ | fail)<;>(try simp (disch:=first | omega | (simp only [List.length_set,List.length_append,List.length_cons,List.length_nil];done) | (simp only [List.length_set,List.length_append,List.length_cons,List.length_nil];omega)) only [qb,go_sem,↓reduceIte])) | ((first | (refine cs_ ?_ ?_<;>intro hc) | refine cj_ ?_ | simp (disch:=omega) only [encs_getN,qb])<;>(try refine ev_ ?_)) | with_reducible exact ti_)
       exact hfin _ row3 hpg rfl rfl rfl rfl rfl
     ·simp only [qhw hr1,qia hr1]
      repeat' (first | refine vs_ ?_ | ((first | refine vr_ ?_ | fail)<;>(try simp (disch:=first | omega | (simp only [List.length_set,List.length_append,List.length_cons,List.length_nil];done) | (simp only [List.length_set,List.length_append,List.length_cons,List.length_nil];omega)) only [hg,hcb,hgb,hkn,hk2,hc1,hkl,hgc,hse,qer,qvq,qb,qd2,go_sem,↓reduceIte])) | ((first | simp (disch:=omega) only [hg] | (refine cs_ ?_ ?_<;>intro hc) | refine cj_ ?_ | simp (disch:=omega) only [encs_getN,qb])<;>(try refine ev_ ?_)) | with_reducible exact ti_)
      all_goals try (exfalso;omega)
      refine qpy (S:=Unit) (Inv:=fun _=>True) (st:=fun _=>pq2 l b i k p row seen' sup 0) ?_ fun _ _=>inner _ ?_
      ·refine qf () [0,2,1] trivial rfl (by simp) ?_ ?_ ?_
       all_goals (simp only [pq2,List.take_zero,nxtP,List.append_nil,qhw hr1,qia hr1]<;>(try refine ev_ ?_)<;>(try with_reducible exact ti_)<;>(try simp (disch:=omega) only [qb,and_true,true_and]))
       all_goals trace_state
      ·unfold pq2
       dsimp only
       generalize row ++ nxtP l p (sup.take sup.length) 0 = row3 at *
       repeat' (first | refine vs_ ?_ | ((first | refine vr_ ?_ | fail)<;>(try simp (disch:=first | omega | (simp only [List.length_set,List.length_append,List.length_cons,List.length_nil];done) | (simp only [List.length_set,List.length_append,List.length_cons,List.length_nil];omega)) only [qb,go_sem,↓reduceIte])) | ((first | (refine cs_ ?_ ?_<;>intro hc) | refine cj_ ?_ | simp (disch:=omega) only [encs_getN,qb])<;>(try refine ev_ ?_)) | with_reducible exact ti_)
       exact hfin _ row3 hpg rfl rfl rfl rfl rfl
  ·rw [List.drop_of_length_le (by omega)] at zh
   have hr0:res = ([],false):=by
    obtain ⟨f,rfl⟩:∃ f',f = f' + 1:=⟨f - 1,by omega⟩
    rw [← zh];rfl
   rw [hr0]
   by_cases hr1:row.length = 1
   ·simp only [qjz hr1,qj0 hr1]
    repeat' (first | refine vs_ ?_ | ((first | refine vr_ ?_ | fail)<;>(try simp (disch:=first | omega | (simp only [List.length_set,List.length_append,List.length_cons,List.length_nil];done) | (simp only [List.length_set,List.length_append,List.length_cons,List.length_nil];omega)) only [qb,qd2,go_sem,↓reduceIte])) | ((first | (refine cs_ ?_ ?_<;>intro hc) | refine cj_ ?_ | simp (disch:=omega) only [encs_getN,qb])<;>(try refine ev_ ?_)) | with_reducible exact ti_)
    all_goals first | (exfalso;omega) | rfl | trace_state
   ·simp only [qhw hr1,qia hr1]
    repeat' (first | refine vs_ ?_ | ((first | refine vr_ ?_ | fail)<;>(try simp (disch:=first | omega | (simp only [List.length_set,List.length_append,List.length_cons,List.length_nil];done) | (simp only [List.length_set,List.length_append,List.length_cons,List.length_nil];omega)) only [qb,qd2,go_sem,↓reduceIte])) | ((first | (refine cs_ ?_ ?_<;>intro hc) | refine cj_ ?_ | simp (disch:=omega) only [encs_getN,qb])<;>(try refine ev_ ?_)) | with_reducible exact ti_)
    all_goals first | (exfalso;omega) | rfl | trace_state
end Go.Proofs.YtgglaabljlhliaaGreat

/- proofs as data; how great they are -/
set_option maxRecDepth 4000
namespace Go.V
open Go Go.RowKit

inductive Prf where
 | mk (kind num:Int) (types:List Ty) (kids:List Prf)
def Prf.kind:Prf->Int | .mk k _ _ _=>k
def Prf.num:Prf->Int | .mk _ n _ _=>n
def Prf.types:Prf->List Ty | .mk _ _ t _=>t
def Prf.kids:Prf->List Prf | .mk _ _ _ ks=>ks
mutual
def qb1:Prf->AV
 | .mk k n t ks=>.agg [.int .i64 k,.int .i64 n,.sl 3 (qx t),.sl 4 (qt ks)]
def qt:List Prf->List AV
 | []=>[]
 | x :: r=>qb1 x :: qt r
end
theorem qbe (l:List Prf):qt l = l.map qb1:=by
 induction l with
 | nil=>rfl
 | cons x r ih=>simp [qt,ih]
abbrev rcP (n:Prf):List AV:=[.int .i64 n.kind,.int .i64 n.num,.sl 3 (qx n.types),.sl 4 (qt n.kids)]
theorem qc9 (n:Prf):AV.agg [.int .i64 n.kind,.int .i64 n.num,.sl 3 (qx n.types),.sl 4 (qt n.kids)] = qb1 n:=by
 cases n;simp only [qb1,Prf.kind,Prf.num,Prf.types,Prf.kids]
theorem qtp (n:Prf):(qb1 n).cells = rcP n:=by rw [← qc9];rfl
theorem Prf.ind {p:Prf->Prop} (h:∀ n:Prf,(∀ x∈n.kids,p x)->p n):∀ n,p n:=by
 intro n
 refine Prf.rec (motive_1:=p) (motive_2:=fun l=>∀ x∈l,p x) (fun k n t ks ih=>h (.mk k n t ks) ih) (fun x hx=>by cases hx) (fun x r h1 h2 y hy=>?_) n
 rcases List.mem_cons.1 hy with rfl | hy
 ·exact h1
 ·exact h2 y hy
theorem qgv (k:Nat):∀ n,(qb1 n).bd k = true:=Prf.ind fun n ih=>by
 have h1:AV.bds k (qt n.kids) = true:=by
  rw [qbe,qb9,List.all_map,List.all_eq_true];exact ih
 rw [← qc9 n]
 simp only [AV.bd,AV.bds,qcm,h1,Bool.and_true]
theorem qey (k:Nat) (l:List Prf):AV.bds k (qt l) = true:=by
 rw [qbe,qb9,List.all_map,List.all_eq_true];exact fun x _=>qgv k x
theorem q0p (σ:Nat->Nat) (n:Prf):(qb1 n).ren σ = qb1 n:=ren_same (m:=0) (fun i hi=>by omega) _ (qgv 0 n)
theorem qi5 (σ:Nat->Nat) (l:List Prf):AV.rens σ (qt l) = qt l:=ql (m:=0) (fun i hi=>by omega) _ (qey 0 l)
theorem qbap (H:List Ent) (n:Prf):co H (.agg [.id,.id,.sl 3,.sl 4]) (qb1 n) = qb1 n:=by
 rw [← qc9];simp only [qh9,qdz,qfh,ql2,qd1]
theorem q0d (n:Prf):rdCo (.agg [.id,.id,.sl 3,.sl 4]) (qb1 n) = []:=by
 rw [← qc9];simp only [qek,qcx,qdn,qhf,qcw,List.append_nil]
theorem q0n (n:Prf):(qb1 n).isAgg = true:=by cases n;rfl
theorem qoz (n:Prf):(qb1 n).leaf = false:=by cases n;rfl
theorem qz (l:List Prf):(qt l).length = l.length:=by rw [qbe];simp
def Pf0:Prf:=.mk 0 0 [] []
theorem qs8 {l:List Prf} {i:Nat} (h:i < l.length):(qt l).getD i .junk = qb1 (l.getD i Pf0):=by
 rw [qbe,List.getD_eq_getElem?_getD,List.getElem?_map,List.getElem?_eq_getElem h,List.getD_eq_getElem?_getD,List.getElem?_eq_getElem h];rfl
theorem q4f {l:List Prf} {i:Nat} (h:i < l.length):l.getD i Pf0∈l:=by
 rw [List.getD_eq_getElem?_getD,List.getElem?_eq_getElem h];exact List.getElem_mem h
theorem qb45 {l:List Prf} {i:Nat} (h:i < l.length):l.drop i = l.getD i Pf0 :: l.drop (i + 1):=by
 rw [List.drop_eq_getElem_cons h,List.getD_eq_getElem?_getD,List.getElem?_eq_getElem h];rfl
theorem q22 (b:Bool) (n off:Nat) (x:Prf):fldv b n off (qb1 x) = ldc b n off (rcP x):=by rw [← qc9];rfl
theorem qny (x:Prf):[qb1 x] = qt [x]:=by rw [qbe];rfl
theorem qe4 (l:List Prf) (x:Prf):qt l ++ [qb1 x] = qt (l ++ [x]):=by rw [qbe,qbe];simp
theorem qgw:AV.agg [.int .i64 0,.int .i64 0,.sl 3 [],.sl 4 []] = qb1 Pf0:=by simp only [Pf0,qb1,qx,qt]
attribute [go_sem] rcP q22 q0d qgv qey q0p qi5 qbap q0n qtp qc9 qoz qz
mutual
def szPf:Prf->Int
 | .mk _ _ _ ks=>1 + qcz ks
def qcz:List Prf->Int
 | []=>0
 | x :: r=>szPf x + qcz r
end
theorem qob (x:Prf):szPf x = 1 + qcz x.kids:=by cases x;rw [szPf];rfl
theorem qkn:∀ a b:List Prf,qcz (a ++ b) = qcz a + qcz b
 | [],b=>by rw [List.nil_append,qcz];omega
 | x :: a,b=>by rw [List.cons_append,qcz,qcz,qkn a b];omega
theorem qol:∀ x,1≤szPf x:=Prf.ind fun x ih=>by
 rw [qob]
 have:∀ l:List Prf,(∀ y∈l,1≤szPf y)->0≤qcz l:=fun l=>by
  induction l with
  | nil=>exact fun _=>Int.le_refl _
  | cons y r ihl=>intro h;rw [qcz];have:=h y (by simp);have:=ihl fun z hz=>h z (by simp [hz]);omega
 have:=this x.kids ih
 omega
end Go.V
namespace Go.Proofs.YtgglaabljlhliaaGreat
open Go Go.RowKit Go.V
theorem qwq (l:List Prf):0≤qcz l:=by
 induction l with
 | nil=>exact Int.le_refl _
 | cons y r ih=>rw [qcz];have:=qol y;omega
theorem quh:∀ x:Prf,szPf x≤1000000000->qk Tryz.prog 84 [qb1 x] (.int .i64 (szPf x)):=by
 refine Prf.ind fun x ih hx=>?_
 refine qd c0b (by simp) (by simp only [go_sem]) rfl fun hw=>?_
 have hkl:x.kids.length≤maxLen:=by
  have h:=hw.1
  rw [← qc9] at h
  have:=h.2.2.2.1.1
  rwa [qz] at this
 repeat' (first | refine vs_ ?_ | ((first | refine vr_ ?_ | (refine cs_ ?_ ?_<;>intro hc) | refine cj_ ?_ | simp (disch:=omega) only [encs_getN,qb])<;>(try refine ev_ ?_)) | with_reducible exact ti_)
 refine qj (S:=Nat) (fun i=>i≤x.kids.length) (fun i=>(⟨[(3,.int .i64 (1 + qcz (x.kids.take i))),(7,.sl 4 (qt x.kids)),(8,.int .i64 x.kids.length),(9,.int .i64 i)],[]⟩,[])) (fun i=>x.kids.length - i) ?_ fun i hi=>?_
 ·have h0:qcz ([]:List Prf) = 0:=by rw [qcz]
  refine qf 0 [] (Nat.zero_le _) rfl (by simp) ?_ ?_ ?_<;>simp only [List.take_zero,h0,Int.add_zero]<;>(try refine ev_ ?_)<;>(try with_reducible exact ti_)<;>(try simp (disch:=omega) only [qb,and_true,true_and])
 ·have hs:=qob x
  have hnn:=qwq (x.kids.take i)
  by_cases hlt:i < x.kids.length
  ·have hg:=qs8 hlt
   have hsp:x.kids = x.kids.take i ++ (x.kids.getD i Pf0 :: x.kids.drop (i + 1)):=by rw [← qb45 hlt,List.take_append_drop]
   have hsz:qcz x.kids = qcz (x.kids.take i) + (szPf (x.kids.getD i Pf0) + qcz (x.kids.drop (i + 1))):=by
    exact (congrArg qcz hsp).trans (by rw [qkn,qcz])
   have hdn:=qwq (x.kids.drop (i + 1))
   have hpk:=qol (x.kids.getD i Pf0)
   have hk:=ih _ (q4f hlt) (by omega)
   have htk:qcz (x.kids.take (i + 1)) = qcz (x.kids.take i) + szPf (x.kids.getD i Pf0):=by
    rw [List.take_add_one,List.getElem?_eq_getElem hlt,List.getD_eq_getElem?_getD,List.getElem?_eq_getElem hlt,qkn]
    show _ + qcz [x.kids[i]] = _ + szPf x.kids[i]
    rw [qcz,qcz];omega
   generalize szPf (x.kids.getD i Pf0) = y at *
   generalize qcz (x.kids.take i) = z at *
   have hw1:IntKind.i64.wrap (1 + z + y) = 1 + z + y:=qbc (by omega) (by omega)
   repeat' (first | refine vs_ ?_ | ((first | refine vr_ ?_ | fail)<;>(try simp (disch:=first | omega | (simp only [List.length_set,List.length_append,List.length_cons,List.length_nil];done) | (simp only [List.length_set,List.length_append,List.length_cons,List.length_nil];omega)) only [hg,qb,hw1,go_sem,↓reduceIte])) | ((first | simp (disch:=omega) only [hg] | (refine cs_ ?_ ?_<;>intro hc) | refine cj_ ?_ | simp (disch:=omega) only [encs_getN,qb] | refine qa hk fun _=>?_)<;>(try refine ev_ ?_)) | with_reducible exact ti_)
   all_goals try (exfalso;omega)
   refine qf (i + 1) [] ⟨by omega,by omega⟩ rfl (by simp) ?_ ?_ ?_<;>simp only [htk]<;>(try refine ev_ ?_)<;>(try with_reducible exact ti_)<;>(try simp (disch:=omega) only [qb,and_true,true_and])
   all_goals first | (rw [Int.add_assoc]) | trace_state
  ·rw [List.take_of_length_le (by omega)]
   have hlt':¬ (i:Int) < (x.kids.length:Int):=by omega
   repeat' (first | refine vs_ ?_ | ((first | refine vr_ ?_ | fail)<;>(try simp only [hlt',go_sem,↓reduceIte])) | ((first | (refine cs_ ?_ ?_<;>intro hc) | refine cj_ ?_ | simp (disch:=omega) only [encs_getN,qb])<;>(try refine ev_ ?_)) | with_reducible exact ti_)
   all_goals rw [hs]
end Go.Proofs.YtgglaabljlhliaaGreat

/- what follows by what is given alone -/
set_option maxRecDepth 4000
namespace Go.V
open Go Go.RowKit
structure Env where
 ds:List AV
 hd:AV.bds 0 ds = true
 cs:List Cls
 is:List Ins
def encV (x:Env):AV:=.agg [.sl 3 x.ds,.sl 3 (qbs x.cs),.sl 4 (qbv x.is)]
abbrev evc (x:Env):List AV:=[.sl 3 x.ds,.sl 3 (qbs x.cs),.sl 4 (qbv x.is)]
theorem q2n (x:Env):AV.agg [.sl 3 x.ds,.sl 3 (qbs x.cs),.sl 4 (qbv x.is)] = encV x:=rfl
theorem qz7 (x:Env):(encV x).cells = evc x:=rfl
theorem q0h (k:Nat) (x:Env):AV.bds k x.ds = true:=q0t x.hd k
theorem qh0 (σ:Nat->Nat) (x:Env):AV.rens σ x.ds = x.ds:=ql (m:=0) (fun i hi=>by omega) _ x.hd
theorem q01 (k:Nat) (x:Env):(encV x).bd k = true:=by simp only [encV,AV.bd,AV.bds,q0h,qgx,qg0,Bool.and_true]
theorem q7j (σ:Nat->Nat) (x:Env):(encV x).ren σ = encV x:=ren_same (m:=0) (fun i hi=>by omega) _ (q01 0 x)
theorem qbqj (H:List Ent) (x:Env):co H (.agg [.sl 3,.sl 3,.sl 4]) (encV x) = encV x:=by
 simp only [encV,qh9,qdz,qfh,qd1]
theorem q6h (x:Env):rdCo (.agg [.sl 3,.sl 3,.sl 4]) (encV x) = []:=by
 simp only [encV,qek,qcx,qdn,qcw,List.append_nil]
theorem qbdg (x:Env):(encV x).isAgg = true:=rfl
theorem qrd (x:Env):(encV x).leaf = false:=rfl
theorem qbbm (b:Bool) (n off:Nat) (x:Env):fldv b n off (encV x) = ldc b n off (evc x):=rfl
attribute [go_sem] evc qbbm q6h q01 q7j qbqj qbdg qz7 q2n qrd q0h qh0
end Go.V
namespace Go.Proofs.YtgglaabljlhliaaGreat
open Go Go.RowKit Go.V
def supW (x:Prf) (ns:List Int):Prf:=ns.foldl (fun x n=>.mk 2 n [] [x]) x
def supF (cs:List Cls) (p:Pd):List Pd->Nat->Option Prf
 | [],_=>none
 | q :: r,i=>if qe8 q.ty p.ty = true then (if (pthC cs q.cls p.cls).2 = true then some (supW (.mk 1 i [] []) (pthC cs q.cls p.cls).1) else supF cs p r (i + 1)) else supF cs p r (i + 1)
def supA (r:Option Prf):AV:=match r with
 | some x=>.tup [qb1 x,.bool true]
 | none=>.tup [qb1 Pf0,.bool false]
theorem qdf {l:List Pd} {i:Nat} (h:i < l.length):l.getD i P0∈l:=by
 rw [List.getD_eq_getElem?_getD,List.getElem?_eq_getElem h];exact List.getElem_mem h
theorem qps (l:List Cls) (b:Int):∀ (f:Nat) (q:List (Int×List Int)) (seen:List Bool) (B:Nat),(∀ x∈q,x.2.length≤B)->(pthF l b f q seen).1.length≤B + f
 | 0,q,seen,B,h=>by simp [pthF]
 | f + 1,[],seen,B,h=>by simp [pthF]
 | f + 1, (c, p) :: q, seen, B, h => by
   rw [pthF]
   have hp:=h (c,p) (by simp)
   split
   ·dsimp only at hp ⊢;omega
   ·split
    ·have:=qps l b f q seen B fun x hx=>h x (by simp [hx]);omega
    ·have:=qps l b f (q ++ nxtP l p (l.getD c.toNat C0).sup 0) (seen.set c.toNat true) (B + 1) (fun x hx=>by
      rcases List.mem_append.1 hx with hx | hx
      ·have:=h x (by simp [hx]);omega
      ·obtain ⟨_,_,_,h2⟩:=qj9 hx
       dsimp only at hp
       omega)
     omega
theorem qwm (l:List Cls) (u v:List UInt8):(pthC l u v).1.length≤200:=by
 unfold pthC
 split
 ·simp
 ·split
  ·simp
  ·split
   ·have:=qps l (atC v l 0) 200 [(atC u l 0,[])] (List.replicate l.length false) 0 (fun x hx=>by simp only [List.mem_singleton] at hx;subst hx;simp)
    omega
   ·simp
theorem q2r (x:Prf) (ns:List Int) (n:Int):supW x (ns ++ [n]) = .mk 2 n [] [supW x ns]:=by simp [supW]
set_option maxHeartbeats 1000000 in
theorem qr2 {e:Env} (hf:fewC e.cs) (g:List Pd) (p:Pd):qk Tryz.prog 23 [encV e,.sl 4 (qg g),encP p] (supA (supF e.cs p g 0)):=by
 refine qd c0a (by simp) (by simp only [go_sem]) (by cases supF e.cs p g 0<;>simp only [supA,AV.bd,AV.bds,qgv,Bool.and_true]) fun hw=>?_
 have hl:=(qca hw.2.1).1
 repeat' (first | refine vs_ ?_ | ((first | refine vr_ ?_ | (refine cs_ ?_ ?_<;>intro hc) | refine cj_ ?_ | simp (disch:=omega) only [encs_getN,qb])<;>(try refine ev_ ?_)) | with_reducible exact ti_)
 refine qj (S:=Nat) (fun i=>i≤g.length∧supF e.cs p (g.drop i) i = supF e.cs p g 0) (fun i=>(⟨[(3,.ptr 0 0),(5,.ptr 1 0),(6,.ptr 2 0),(15,.sl 4 (qg g)),(16,.int .i64 g.length),(17,.int .i64 i)],[]⟩,[.blk (evc e),.blk (pdc p),.blk [.int .i64 0,.int .i64 0,.nils,.nils]])) (fun i=>g.length - i) ?_ fun i hi=>?_
 ·refine qf 0 [0,1,2] ⟨Nat.zero_le _,rfl⟩ rfl (by simp) ?_ ?_ ?_<;>(try refine ev_ ?_)<;>(try with_reducible exact ti_)<;>(try simp (disch:=omega) only [qb,and_true,true_and])
 obtain ⟨hi,ha⟩:=hi
 by_cases hlt:i < g.length
 ·have hg:=q8 hlt
  rw [V.dropP hlt,supF] at ha
  have hs:=qjc (g.getD i P0).ty p.ty
  have hp:=qmc hf (g.getD i P0).cls p.cls
  generalize g.getD i P0 = q at *
  have hltI:(i:Int) < (g.length:Int):=by omega
  generalize qe8 q.ty p.ty = sm at *
  cases sm with
  | false =>
    rw [if_neg (by simp)] at ha
    repeat' (first | refine vs_ ?_ | ((first | refine vr_ ?_ | fail)<;>(try simp (disch:=first | omega | (simp only [List.length_set,List.length_append,List.length_cons,List.length_nil];done) | (simp only [List.length_set,List.length_append,List.length_cons,List.length_nil];omega)) only [hg,hltI,qb,go_sem,↓reduceIte])) | ((first | simp (disch:=omega) only [hg] | (refine cs_ ?_ ?_<;>intro hc) | refine cj_ ?_ | simp (disch:=omega) only [encs_getN,qb] | refine qa hs fun _=>?_)<;>(try refine ev_ ?_)) | with_reducible exact ti_)
    refine qf (i + 1) [0,1,2] ⟨⟨by omega,ha⟩,by omega⟩ rfl (by simp) ?_ ?_ ?_<;>(try refine ev_ ?_)<;>(try with_reducible exact ti_)<;>(try simp (disch:=omega) only [qb,and_true,true_and])
  | true =>
    rw [if_pos rfl] at ha
    have hpl:=qwm e.cs q.cls p.cls
    generalize pthC e.cs q.cls p.cls = pc at *
    obtain ⟨ns,ok⟩:=pc
    dsimp only at ha hp hpl
    have hnm:ns.length≤maxLen:=by unfold maxLen;omega
    cases ok with
    | false =>
      rw [if_neg (by simp)] at ha
      repeat' (first | refine vs_ ?_ | ((first | refine vr_ ?_ | fail)<;>(try simp (disch:=first | omega | (simp only [List.length_set,List.length_append,List.length_cons,List.length_nil];done) | (simp only [List.length_set,List.length_append,List.length_cons,List.length_nil];omega)) only [hg,hltI,qb,go_sem,↓reduceIte])) | ((first | simp (disch:=omega) only [hg] | (refine cs_ ?_ ?_<;>intro hc) | refine cj_ ?_ | simp (disch:=omega) only [encs_getN,qb] | refine qa hs fun _=>?_ | refine qa hp fun _=>?_)<;>(try refine ev_ ?_)) | with_reducible exact ti_)
      refine qf (i + 1) [0,1,2] ⟨⟨by omega,ha⟩,by omega⟩ rfl (by simp) ?_ ?_ ?_<;>(try refine ev_ ?_)<;>(try with_reducible exact ti_)<;>(try simp (disch:=omega) only [qb,and_true,true_and])
    | true =>
      rw [if_pos rfl] at ha
      repeat' (first | refine vs_ ?_ | ((first | refine vr_ ?_ | fail)<;>(try simp (disch:=first | omega | (simp only [List.length_set,List.length_append,List.length_cons,List.length_nil];done) | (simp only [List.length_set,List.length_append,List.length_cons,List.length_nil];omega)) only [hg,hltI,qb,go_sem,↓reduceIte])) | ((first | simp (disch:=omega) only [hg] | (refine cs_ ?_ ?_<;>intro hc) | refine cj_ ?_ | simp (disch:=omega) only [encs_getN,qb] | refine qa hs fun _=>?_ | refine qa hp fun _=>?_)<;>(try refine ev_ ?_)) | with_reducible exact ti_)
      refine qme 4 2 (.sl 3) rfl ?_
      simp only [List.set_cons_zero,List.set_cons_succ,List.getD_cons_zero,List.getD_cons_succ,q7]
      refine qme 4 3 (.sl 4) rfl ?_
      simp only [List.set_cons_zero,List.set_cons_succ,List.getD_cons_zero,List.getD_cons_succ,q7]
      refine qj (S:=Nat) (fun j=>j≤ns.length) (fun j=>(⟨[(6,.ptr 2 0),(12,.ptr 3 0),(42,.sl 1 (ints ns)),(43,.int .i64 ns.length),(44,.int .i64 j)],[]⟩,[.blk (evc e),.blk (pdc p),.blk [.int .i64 0,.int .i64 0,.nils,.nils],.blk (rcP (supW (.mk 1 i [] []) (ns.take j)))])) (fun j=>ns.length - j) ?_ fun j hj=>?_
      ·refine qf 0 [0,1,2,4] (Nat.zero_le _) rfl (by simp) ?_ ?_ ?_
       all_goals (skip<;>(try refine ev_ ?_)<;>(try with_reducible exact ti_)<;>(try simp (disch:=omega) only [qb,and_true,true_and]))
       all_goals first | (simp only [List.take_zero,supW,List.foldl_nil,Prf.kind,Prf.num,Prf.types,Prf.kids,qx,qt];done) | trace_state
      ·by_cases hjl:j < ns.length
       ·have hjI:(j:Int) < (ns.length:Int):=by omega
        have hgi:=qk3 hjl
        have hsn:=q2r (.mk 1 i [] []) (ns.take j) (ns.getD j 0)
        rw [← qbyu hjl] at hsn
        generalize supW (.mk 1 i [] []) (ns.take j) = x at *
        generalize ns.getD j 0 = n at *
        unfold q5f
        generalize hz:q5h = z14
        repeat' (first | refine vs_ ?_ | ((first | refine vr_ ?_ | fail)<;>(try simp (disch:=first | omega | (simp only [List.length_set,List.length_append,List.length_cons,List.length_nil];done) | (simp only [List.length_set,List.length_append,List.length_cons,List.length_nil];omega)) only [hgi,hjI,qb,go_sem,↓reduceIte])) | ((first | (refine cs_ ?_ ?_<;>intro hc) | refine cj_ ?_ | simp (disch:=omega) only [encs_getN,qb])<;>(try refine ev_ ?_)) | with_reducible exact ti_)
        subst hz
        refine qme 3 2 (.sl 3) rfl ?_
        simp only [List.set_cons_zero,List.set_cons_succ,List.getD_cons_zero,List.getD_cons_succ,q7]
        refine qme 3 3 (.sl 4) rfl ?_
        simp only [List.set_cons_zero,List.set_cons_succ,List.getD_cons_zero,List.getD_cons_succ,qs5]
        repeat' (first | refine vs_ ?_ | ((first | refine vr_ ?_ | fail)<;>(try simp (disch:=first | omega | (simp only [List.length_set,List.length_append,List.length_cons,List.length_nil];done) | (simp only [List.length_set,List.length_append,List.length_cons,List.length_nil];omega)) only [qb,go_sem,↓reduceIte])) | ((first | (refine cs_ ?_ ?_<;>intro hc) | refine cj_ ?_ | simp (disch:=omega) only [encs_getN,qb])<;>(try refine ev_ ?_)) | with_reducible exact ti_)
        refine qf (j + 1) [0,1,2,3] ⟨by omega,by omega⟩ rfl (by simp) ?_ ?_ ?_
        all_goals (simp only [hsn,rcP,Prf.kind,Prf.num,Prf.types,Prf.kids]<;>(try refine ev_ ?_)<;>(try with_reducible exact ti_)<;>(try simp (disch:=omega) only [qb,and_true,true_and]))
        all_goals first | (simp only [qx,qt];done) | trace_state
       ·have hjI:¬ (j:Int) < (ns.length:Int):=by omega
        rw [List.take_of_length_le (by omega)]
        rw [← ha]
        repeat' (first | refine vs_ ?_ | ((first | refine vr_ ?_ | fail)<;>(try simp only [hjI,go_sem,↓reduceIte])) | ((first | (refine cs_ ?_ ?_<;>intro hc) | refine cj_ ?_ | simp (disch:=omega) only [encs_getN,qb])<;>(try refine ev_ ?_)) | with_reducible exact ti_)
        all_goals rfl
 ·rw [List.drop_of_length_le (by omega),supF] at ha
  have hltI:¬ (i:Int) < (g.length:Int):=by omega
  rw [← ha]
  repeat' (first | refine vs_ ?_ | ((first | refine vr_ ?_ | fail)<;>(try simp only [hltI,go_sem,↓reduceIte])) | ((first | (refine cs_ ?_ ?_<;>intro hc) | refine cj_ ?_ | simp (disch:=omega) only [encs_getN,qb])<;>(try refine ev_ ?_)) | with_reducible exact ti_)
  all_goals first | (simp only [supA,← qgw];done) | trace_state
end Go.Proofs.YtgglaabljlhliaaGreat
