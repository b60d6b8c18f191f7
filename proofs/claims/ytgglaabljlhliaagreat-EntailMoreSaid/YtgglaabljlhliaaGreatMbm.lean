/- Texts of this proof, joined. -/
import Derived.Test.YtgglaabljlhliaaGreatMbk
import Derived.Test.YtgglaabljlhliaaGreatMbl
set_option linter.unusedVariables false
set_option linter.unusedSimpArgs false

/- classes: the way from one to another: the queue -/
set_option maxRecDepth 4000
namespace Go.Proofs.YtgglaabljlhliaaGreat
open Go Go.RowKit Go.V

abbrev qwl:FuncId:=73
theorem qxz:VCalls Tryz.prog qwl [] [.sl 1 (ints [])] fun H' o=>H' = []∧o = .val (.lit 1 []):=by
 refine qms (k:=1) (Q':=fun H' o=>H' = []∧(o = .val (.lit 1 [])∨o = .val .nils)) ?_ fun H' o h=>?_
 ·refine qf5 c0d 0 (by simp) (by simp) ?_
  unfold k0d
  refine qce (qg0 ?_)
  (refine ev_ ?_;(try with_reducible exact ti_))
  refine qce (qce (qo2 (l:=[⟨none,some 3,.v (.mov (.t 0))⟩]) (t:=4) (x:=.t 3) ?_))
  (refine ev_ ?_;(try with_reducible exact ti_))
  refine ⟨1,ints [],rfl,fun b hb=>?_⟩
  cases b
  ·repeat' (first | refine vs_ ?_ | ((first | refine vr_ ?_ | (refine cs_ ?_ ?_<;>intro hc) | refine cj_ ?_ | fail)<;>(try refine ev_ ?_)) | with_reducible exact ti_)
  ·repeat' (first | refine vs_ ?_ | ((first | refine vr_ ?_ | (refine cs_ ?_ ?_<;>intro hc) | refine cj_ ?_ | fail)<;>(try refine ev_ ?_)) | with_reducible exact ti_)
 ·rcases h with ⟨h,h1 | h1⟩
  ·exact .inl ⟨h,h1⟩
  ·exact .inr ⟨h1,h,rfl⟩
theorem qyh {l:List Int} (h0:l≠[]) (hl:l.length≤4294967296):VCalls Tryz.prog qwl [] [.sl 1 (ints l)] fun H' o=>H' = [.app 1 (ints l)]∧o = .val (.row 0 l.length):=by
 refine qf5 c0d 1 (by simp) (by simp) ?_
 unfold k0d
 refine qce (qg0 ?_)
 (refine ev_ ?_;(try with_reducible exact ti_))
 refine qce (qce (qo2 (l:=[⟨none,some 3,.v (.mov (.t 0))⟩]) (t:=4) (x:=.t 3) ?_))
 (refine ev_ ?_;(try with_reducible exact ti_))
 refine ⟨1,ints l,rfl,fun b hb=>?_⟩
 have hcap:qbc l.length 8 = True:=eq_true (by unfold qbc;omega)
 have hln:(ints l).length≠0:=by rw [qbu];exact fun h=>h0 (List.length_eq_zero_iff.1 h)
 have hln2:¬ l.length = 0:=fun h=>h0 (List.length_eq_zero_iff.1 h)
 cases b
 ·repeat' (first | refine vs_ ?_ | ((first | refine vr_ ?_ | fail)<;>(try simp only [hln2,hcap,qbu,Nat.zero_add,go_sem,↓reduceIte])) | ((first | (refine cs_ ?_ ?_<;>intro hc) | refine cj_ ?_ | fail)<;>(try refine ev_ ?_)) | with_reducible exact ti_)
 ·exact absurd (hb rfl) (fun h=>hln (by rw [h];rfl))
section
variable {l:List Int} {H:List Ent} {args raws:List AV} {K:Md->AV->List Ent->Prop}
theorem qp3 (hl:l = []) (hq:K .here (.lit 1 []) H) (ha:args = [.sl 1 (ints l)]:=by rfl):DApp Tryz.prog H (.fn qwl [] []) args raws K:=by
 subst hl
 subst ha
 refine .inl ⟨_,qc1 ?_,hq⟩
 rw [List.nil_append,List.append_nil]
 refine qb9 [] qxz (by simp) trivial (by simp [AV.bds,AV.bd,qdg]) (by simp only [AV.rens,AV.ren,qep]) fun H1 o ho=>?_
 obtain ⟨rfl,rfl⟩:=ho
 exact ⟨by simp [qkh,qbf],rfl⟩
theorem q4v (h0:l≠[]) (hl:l.length≤4294967296) (hq:K (.grow none (.app 1 (ints l)) l.length) (.row H.length l.length) (H ++ [.app 1 (ints l)])) (hr:raws = [.sl 1 (ints l)]:=by rfl):DApp Tryz.prog H (.fn qwl [] []) args raws K:=by
 subst hr
 refine .inr (.inr (.inr (.inl ⟨none,.app 1 (ints l),l.length,⟨fun q hq=>(by cases hq),fun H₀ h0'=>?_⟩,hq⟩)))
 refine qc1 ?_
 rw [List.nil_append,List.append_nil]
 refine qb9 [] (qyh h0 hl) (by simp) trivial (by simp [AV.bds,AV.bd,qdg]) (by simp only [AV.rens,AV.ren,qep]) fun H1 o ho=>?_
 obtain ⟨rfl,rfl⟩:=ho
 refine ⟨?_,?_⟩
 ·show H₀ ++ [(Ent.app 1 (ints l)).ren _] = H₀ ++ [_]
  rw [Ent.ren,qep]
 ·show VO.val (.row (H₀.length + (0 - 0)) _) = _
  simp
end
def stpA (p:Int×List Int):AV:=.agg [.int .i64 p.1,.sl 1 (ints p.2)]
def stps (l:List (Int×List Int)):List AV:=l.map stpA
theorem qtn (k:Nat) (p:Int×List Int):(stpA p).bd k = true:=by simp only [stpA,AV.bd,AV.bds,qdg,Bool.and_true]
theorem qhi (a:Int) (p:List Int):AV.agg [.int .i64 a,.sl 1 (ints p)] = stpA (a,p):=rfl
theorem qxs (p:Int×List Int):(stpA p).cells = [.int .i64 p.1,.sl 1 (ints p.2)]:=rfl
theorem qdl (l:List (Int×List Int)):(stps l).length = l.length:=by simp [stps]
theorem q2q (k:Nat) (l:List (Int×List Int)):AV.bds k (stps l) = true:=by rw [stps,qb2,List.all_map,List.all_eq_true];exact fun x _=>qtn k x
theorem q5h (σ:Nat->Nat) (l:List (Int×List Int)):AV.rens σ (stps l) = stps l:=qj (m:=0) (fun i hi=>by omega) _ (q2q 0 l)
theorem qba4 (σ:Nat->Nat) (p:Int×List Int):(stpA p).ren σ = stpA p:=ren_same (m:=0) (fun i hi=>by omega) _ (qtn 0 p)
theorem qh0 (l:List (Int×List Int)) (p:Int×List Int):stps l ++ [stpA p] = stps (l ++ [p]):=by simp [stps]
theorem q8p (p:Int×List Int):[stpA p] = stps [p]:=rfl
theorem qbac {l:List (Int×List Int)} {i:Nat} (h:i < l.length):(stps l).getD i .junk = stpA (l.getD i (0,[])):=by
 rw [stps,List.getD_eq_getElem?_getD,List.getElem?_map,List.getElem?_eq_getElem h,List.getD_eq_getElem?_getD,List.getElem?_eq_getElem h];rfl
theorem q5v (b:Bool) (n off:Nat) (p:Int×List Int):fldv b n off (stpA p) = ldc b n off [.int .i64 p.1,.sl 1 (ints p.2)]:=rfl
theorem q65 (p:Int×List Int):(stpA p).isAgg = true:=rfl
theorem qpx (p:Int×List Int):(stpA p).leaf = false:=rfl
theorem qbta (H:List Ent) (p:Int×List Int):co H (.agg [.id,.sl 1]) (stpA p) = stpA p:=by simp only [stpA,qg4,qdk,qet,qka,qdo]
attribute [go_sem] qtn qxs qdl q2q q5h qba4 q5v q65 qpx qbta
def nxtP (l:List Cls) (p:List Int):List (List UInt8)->Nat->List (Int×List Int)
 | [],_=>[]
 | s :: r,k=>(atC s l 0,p ++ [(k:Int)]) :: nxtP l p r (k + 1)
def pthF (l:List Cls) (b:Int):Nat->List (Int×List Int)->List Bool->List Int×Bool
 | 0,_,_=>([],false)
 | _ + 1,[],_=>([],false)
 | f + 1,(c,p) :: q,seen=>if c = b then (p,true) else if seen.getD c.toNat true = true then pthF l b f q seen else pthF l b f (q ++ nxtP l p (l.getD c.toNat C0).sup 0) (seen.set c.toNat true)
def pthC (l:List Cls) (u v:List UInt8):List Int×Bool :=
 if atC u l 0 < 0 then ([],false) else if atC v l 0 < 0 then ([],false) else if (chkC l).2 = 0 then pthF l (atC v l 0) 200 [(atC u l 0,[])] (List.replicate l.length false) else ([],false)
theorem qnn (l:List Cls) (p:List Int):∀ (s:List (List UInt8)) (k:Nat),(nxtP l p s k).length = s.length
 | [],k=>rfl
 | s :: r,k=>by rw [nxtP,List.length_cons,qnn l p r,List.length_cons]
theorem qpe (l:List Cls) (p:List Int):∀ (r:List (List UInt8)) (s:List UInt8) (k:Nat),nxtP l p (r ++ [s]) k = nxtP l p r k ++ [(atC s l 0,p ++ [((k + r.length:Nat):Int)])]
 | [],s,k=>by simp [nxtP]
 | x :: r, s, k => by
   rw [List.cons_append,nxtP,nxtP,qpe l p r s (k + 1),List.cons_append,List.length_cons,show k + 1 + r.length = k + (r.length + 1) by omega]
theorem qbbk {l:List Cls}:∀ {pre s:List (List UInt8)},knC l pre s = true->∀ x∈s,0≤atC x l 0
 | pre,[],_,x,hx=>by cases hx
 | pre, y :: r, h, x, hx => by
   rw [knC] at h
   split at h
   ·cases h
   ·split at h
    ·cases h
    ·rcases List.mem_cons.1 hx with rfl | hx
     ·omega
     ·exact qbbk h x hx
theorem q1c {l:List Cls}:∀ {r:List Cls} {i:Nat},c2 l r i = none->∀ c∈r,knC l [] c.sup = true
 | [],i,_,c,hc=>by cases hc
 | x :: r, i, h, c, hc => by
   rw [c2] at h
   split at h
   ·rename_i hx
    rcases List.mem_cons.1 hc with rfl | hc
    ·exact hx
    ·exact q1c h c hc
   ·cases h
theorem qby7 {l:List Cls} (h:(chkC l).2 = 0):∀ c∈l,∀ s∈c.sup,0≤atC s l 0:=fun c hc s hs=>by
 refine qbbk (q1c (l:=l) (r:=l) (i:=0) ?_ c hc) s hs
 unfold chkC at h
 cases h1:c1 l l 0 with
 | some i=>rw [h1] at h;cases h
 | none =>
   rw [h1] at h
   cases h2:c2 l l 0 with
   | some i=>rw [h2] at h;cases h
   | none=>rfl
theorem qbnd {l:List Cls} {s:List UInt8} (h:0≤atC s l 0):(atC s l 0).toNat < l.length∧atC s l 0 = ((atC s l 0).toNat:Int):=by
 rcases qbbp s l 0 with h1 | ⟨k,h1,h2,h3⟩
 ·omega
 ·rw [h2] at h ⊢;simp;omega
set_option maxRecDepth 4000

def rwV (r:Nat) (row:List (Int×List Int)):AV:=if row.length = 1 then .lit 2 (stps row) else .row r row.length
def rwE (row:List (Int×List Int)):List Ent:=if row.length = 1 then [] else [.app 2 (stps row)]
theorem qjh {r:Nat} {row:List (Int×List Int)} (h:row.length = 1):rwV r row = .lit 2 (stps row):=if_pos h
theorem qhb {r:Nat} {row:List (Int×List Int)} (h:row.length≠1):rwV r row = .row r row.length:=if_neg h
theorem qji {row:List (Int×List Int)} (h:row.length = 1):rwE row = []:=if_pos h
theorem qg9 {row:List (Int×List Int)} (h:row.length≠1):rwE row = [.app 2 (stps row)]:=if_neg h
structure PQ where
 f:Nat
 i:Nat
 row:List (Int×List Int)
 seen:List Bool
structure PI (l:List Cls) (b:Int) (res:List Int×Bool) (s:PQ):Prop where
 za:s.seen.length = l.length
 zb:s.i≤s.row.length
 zc:s.row≠[]
 zd:∀ p∈s.row,0≤p.1∧p.1 < l.length
 ze:∀ (j:Nat),j < s.row.length->(s.row.getD j (0,[])).2.length≤j
 zf:s.row.length + 10 * unm s.seen≤100
 zg:(s.row.length - s.i) + 10 * unm s.seen < s.f
 zh:pthF l b s.f (s.row.drop s.i) s.seen = res
def pqSt (l:List Cls) (b:Int) (s:PQ):AF×List Ent :=
 (⟨[(0,.sl 3 (qci l)),(9,.int .i64 b),(10,.row 0 l.length),(11,rwV 1 s.row),(12,.int .i64 s.i)],[]⟩,.mrow 1 (bl s.seen) :: rwE s.row)
def pq2 (l:List Cls) (b:Int) (i:Nat) (c:Int) (p:List Int) (row:List (Int×List Int)) (seen:List Bool) (sup:List (List UInt8)) (k:Nat):AF×List Ent :=
 (⟨[(0,.sl 3 (qci l)),(9,.int .i64 b),(10,.row 0 l.length),(11,rwV 2 (row ++ nxtP l p (sup.take k) 0)),(12,.int .i64 i),(13,.ptr 1 0),(69,.sl 1 (sup.map AV.str)),(70,.int .i64 sup.length),(71,.int .i64 k)],[]⟩,.mrow 1 (bl seen) :: .blk [.int .i64 c,.sl 1 (ints p)] :: rwE (row ++ nxtP l p (sup.take k) 0))
theorem qbuz {l:List (Int×List Int)} {i:Nat} (h:i < l.length):l.drop i = l.getD i (0,[]) :: l.drop (i + 1):=by
 rw [List.drop_eq_getElem_cons h,List.getD_eq_getElem?_getD,List.getElem?_eq_getElem h];rfl
theorem q4j {l:List (Int×List Int)} {i:Nat} (h:i < l.length):l.getD i (0,[])∈l:=by
 rw [List.getD_eq_getElem?_getD,List.getElem?_eq_getElem h];exact List.getElem_mem h
theorem capQ {n:Nat} (h:n≤1000):qbc n 32:=by unfold qbc;omega
theorem qju {l:List Cls} {p:List Int}:∀ {sup:List (List UInt8)} {k:Nat} {q:Int×List Int},q∈nxtP l p sup k->∃ s∈sup,q.1 = atC s l 0∧q.2.length = p.length + 1
 | [],_,q,h=>by cases h
 | s :: r, k, q, h => by
   rw [nxtP] at h
   rcases List.mem_cons.1 h with rfl | h
   ·exact ⟨s,by simp,rfl,by simp⟩
   ·obtain ⟨s',h1,h2,h3⟩:=qju h
    exact ⟨s',by simp [h1],h2,h3⟩
set_option maxHeartbeats 2000000 in
theorem qsr {l:List Cls} (hf:fewC l) (u v:List UInt8):qg Tryz.prog 43 [.sl 3 (qci l),.str u,.str v] (.tup [.sl 1 (ints (pthC l u v).1),.bool (pthC l u v).2]):=by
 refine qd c0c (by simp) (by simp only [go_sem]) (by simp only [AV.bd,AV.bds,qdg];rfl) fun hw=>?_
 have hl:l.length≤maxLen:=(qga hw.1).1
 have hau:=qea l u
 have hav:=qea l v
 have hS:=qpd hf
 have hu:=qbnd (l:=l) (s:=u)
 have hv:=qbnd (l:=l) (s:=v)
 have hca:=qby7 (l:=l)
 unfold pthC
 generalize atC u l 0 = a at *
 generalize atC v l 0 = b at *
 unfold k0c
 generalize hz:IC.seq qbbx _ = z4
 by_cases ha:a < 0
 ·rw [if_pos ha]
  repeat' (first | refine vs_ ?_ | ((first | refine vr_ ?_ | fail)<;>(try simp only [ha,go_sem,↓reduceIte])) | ((first | (refine cs_ ?_ ?_<;>intro hc) | refine cj_ ?_ | simp (disch:=omega) only [encs_getN,qb] | refine qa hau fun _=>?_ | refine qa hav fun _=>?_ | refine qc hau ?_ | refine qc hav ?_)<;>(try refine ev_ ?_)) | with_reducible exact ti_)
  all_goals rfl
 rw [if_neg ha]
 by_cases hb:b < 0
 ·rw [if_pos hb]
  repeat' (first | refine vs_ ?_ | ((first | refine vr_ ?_ | fail)<;>(try simp only [ha,hb,go_sem,↓reduceIte])) | ((first | (refine cs_ ?_ ?_<;>intro hc) | refine cj_ ?_ | simp (disch:=omega) only [encs_getN,qb] | refine qa hau fun _=>?_ | refine qa hav fun _=>?_ | refine qc hau ?_ | refine qc hav ?_)<;>(try refine ev_ ?_)) | with_reducible exact ti_)
  all_goals rfl
 rw [if_neg hb]
 by_cases hc0:(chkC l).2 = 0
 case neg =>
  rw [if_neg hc0]
  rw [decide_eq_false hc0] at hS
  repeat' (first | refine vs_ ?_ | ((first | refine vr_ ?_ | fail)<;>(try simp only [ha,hb,go_sem,↓reduceIte])) | ((first | (refine cs_ ?_ ?_<;>intro hc) | refine cj_ ?_ | simp (disch:=omega) only [encs_getN,qb] | refine qa hau fun _=>?_ | refine qa hav fun _=>?_ | refine qa hS fun _=>?_ | refine qc hau ?_ | refine qc hav ?_ | refine qc hS ?_)<;>(try refine ev_ ?_)) | with_reducible exact ti_)
  all_goals rfl
 rw [if_pos hc0]
 rw [decide_eq_true hc0] at hS
 have hca:=hca hc0
 obtain ⟨hu1,hu2⟩:=hu (by omega)
 generalize hres:pthF l b 200 [(a,[])] (List.replicate l.length false) = res
 have hf1:=hf.1
 have hcapb:qbc l.length 1:=by unfold qbc;omega
 repeat' (first | refine vs_ ?_ | ((first | refine vr_ ?_ | fail)<;>(try simp only [ha,hb,go_sem,↓reduceIte])) | ((first | (refine cs_ ?_ ?_<;>intro hc) | refine cj_ ?_ | simp (disch:=omega) only [encs_getN,qb] | refine qa hau fun _=>?_ | refine qa hav fun _=>?_ | refine qa hS fun _=>?_ | refine qc hau ?_ | refine qc hav ?_ | refine qc hS ?_)<;>(try refine ev_ ?_)) | with_reducible exact ti_)
 subst hz
 repeat' (first | refine vs_ ?_ | ((first | refine vr_ ?_ | fail)<;>(try simp only [ha,hb,go_sem,↓reduceIte])) | ((first | (refine cs_ ?_ ?_<;>intro hc) | refine cj_ ?_ | simp (disch:=omega) only [encs_getN,qb])<;>(try refine ev_ ?_)) | with_reducible exact ti_)
 refine qi (S:=PQ) (PI l b res) (pqSt l b) (fun s=>s.f) ?_ fun s hs=>?_
 ·have hun:unm (List.replicate l.length false) = l.length:=by
   unfold unm
   rw [List.countP_replicate];rfl
  have h0:PI l b res ⟨200,0,[(a,[])],List.replicate l.length false⟩:=by
   refine ⟨by simp,by simp,by simp,?_,?_,?_,?_,hres⟩
   ·intro p hp
    simp only [List.mem_singleton] at hp
    subst hp
    dsimp only
    omega
   ·intro j hj
    have:j = 0:=by simp at hj;omega
    subst this
    simp
   ·dsimp only;rw [hun];simp;omega
   ·dsimp only;rw [hun];simp;omega
  have hbr:List.replicate l.length (AV.bool false) = bl (List.replicate l.length false):=by rw [bl,List.map_replicate]
  refine qf ⟨200,0,[(a,[])],List.replicate l.length false⟩ [0] h0 rfl (by simp) ?_ ?_ ?_
  all_goals (simp only [pqSt,qjh (row:=[(a,[])]) rfl,qji (row:=[(a,[])]) rfl,hbr,← q8p]<;>(try refine ev_ ?_)<;>(try with_reducible exact ti_)<;>(try simp (disch:=omega) only [qb,and_true,true_and]))
  all_goals rfl
 ·obtain ⟨f,i,row,seen⟩:=s
  obtain ⟨za,zb,zc,zd,ze,zf,zg,zh⟩:=hs
  dsimp only at za zb zc zd ze zf zg zh
  unfold pqSt
  dsimp only
  have hrm:row.length≤maxLen:=by unfold maxLen;omega
  by_cases hlt:i < row.length
  ·obtain ⟨f,rfl⟩:∃ f',f = f' + 1:=⟨f - 1,by omega⟩
   rw [qbuz hlt] at zh
   obtain ⟨hc1,hc2⟩:=zd _ (q4j hlt)
   have hpl:=ze i hlt
   have hg:=qbac hlt
   generalize row.getD i (0,[]) = cp at *
   obtain ⟨c,p⟩:=cp
   dsimp only at hc1 hc2 hpl
   obtain ⟨k,rfl⟩:∃ k:Nat,c = k:=⟨c.toNat,by omega⟩
   rw [pthF] at zh
   have hkl:k < seen.length:=by omega
   have hgb:=q1w hkl
   have hkn:(k:Int).toNat = k:=by simp
   rw [hkn] at zh
   by_cases hcb:(k:Int) = b
   ·rw [if_pos hcb] at zh
    by_cases hr1:row.length = 1
    ·simp only [qjh hr1,qji hr1]
     repeat' (first | refine vs_ ?_ | ((first | refine vr_ ?_ | fail)<;>(try simp (disch:=first | omega | (simp only [List.length_set,List.length_append,List.length_cons,List.length_nil];done) | (simp only [List.length_set,List.length_append,List.length_cons,List.length_nil];omega)) only [hg,hcb,qb,qdl,go_sem,↓reduceIte])) | ((first | simp (disch:=omega) only [hg] | (refine cs_ ?_ ?_<;>intro hc) | refine cj_ ?_ | simp (disch:=omega) only [encs_getN,qb])<;>(try refine ev_ ?_)) | with_reducible exact ti_)
     all_goals first | (exfalso;omega) | (rw [← zh])
    ·simp only [qhb hr1,qg9 hr1]
     repeat' (first | refine vs_ ?_ | ((first | refine vr_ ?_ | fail)<;>(try simp (disch:=first | omega | (simp only [List.length_set,List.length_append,List.length_cons,List.length_nil];done) | (simp only [List.length_set,List.length_append,List.length_cons,List.length_nil];omega)) only [hg,hcb,qb,qdl,go_sem,↓reduceIte])) | ((first | simp (disch:=omega) only [hg] | (refine cs_ ?_ ?_<;>intro hc) | refine cj_ ?_ | simp (disch:=omega) only [encs_getN,qb])<;>(try refine ev_ ?_)) | with_reducible exact ti_)
     all_goals first | (exfalso;omega) | (rw [← zh])
   rw [if_neg hcb] at zh
   have hk2:(k:Int) < (l.length:Int):=hc2
   cases hmk:seen.getD k true with
   | true =>
     rw [hmk] at hgb zh
     rw [if_pos rfl] at zh
     have hnx:PI l b res ⟨f,i + 1,row,seen⟩:=⟨za,by dsimp only;omega,zc,zd,ze,zf,by dsimp only;omega,zh⟩
     by_cases hr1:row.length = 1
     ·simp only [qjh hr1,qji hr1]
      repeat' (first | refine vs_ ?_ | ((first | refine vr_ ?_ | fail)<;>(try simp (disch:=first | omega | (simp only [List.length_set,List.length_append,List.length_cons,List.length_nil];done) | (simp only [List.length_set,List.length_append,List.length_cons,List.length_nil];omega)) only [hg,hcb,hgb,hkn,hk2,hc1,hkl,qfq,qb,qdl,go_sem,↓reduceIte])) | ((first | simp (disch:=omega) only [hg] | (refine cs_ ?_ ?_<;>intro hc) | refine cj_ ?_ | simp (disch:=omega) only [encs_getN,qb])<;>(try refine ev_ ?_)) | with_reducible exact ti_)
      all_goals try (exfalso;omega)
      refine qf ⟨f,i + 1,row,seen⟩ [0] ⟨hnx,by dsimp only;omega⟩ rfl (by simp) ?_ ?_ ?_
      all_goals (simp only [pqSt,qjh hr1,qji hr1]<;>(try refine ev_ ?_)<;>(try with_reducible exact ti_)<;>(try simp (disch:=omega) only [qb,and_true,true_and]))
      all_goals trace_state
     ·simp only [qhb hr1,qg9 hr1]
      repeat' (first | refine vs_ ?_ | ((first | refine vr_ ?_ | fail)<;>(try simp (disch:=first | omega | (simp only [List.length_set,List.length_append,List.length_cons,List.length_nil];done) | (simp only [List.length_set,List.length_append,List.length_cons,List.length_nil];omega)) only [hg,hcb,hgb,hkn,hk2,hc1,hkl,qfq,qb,qdl,go_sem,↓reduceIte])) | ((first | simp (disch:=omega) only [hg] | (refine cs_ ?_ ?_<;>intro hc) | refine cj_ ?_ | simp (disch:=omega) only [encs_getN,qb])<;>(try refine ev_ ?_)) | with_reducible exact ti_)
      all_goals try (exfalso;omega)
      refine qf ⟨f,i + 1,row,seen⟩ [0,1] ⟨hnx,by dsimp only;omega⟩ rfl (by simp) ?_ ?_ ?_
      all_goals (simp only [pqSt,qhb hr1,qg9 hr1]<;>(try refine ev_ ?_)<;>(try with_reducible exact ti_)<;>(try simp (disch:=omega) only [qb,and_true,true_and]))
      all_goals trace_state
   | false =>
     rw [hmk] at hgb zh
     rw [if_neg (by simp)] at zh
     have hun:=q3b hkl hmk
     have hkl2:k < l.length:=by omega
     have hgc:=qdq hkl2
     have hsl:=hf.2 _ (qjq hkl2)
     have hcs:=hca _ (qjq hkl2)
     generalize l.getD k C0 = cl at *
     obtain ⟨nm,sup,ms,hms⟩:=cl
     dsimp only at hsl hcs zh
     have hsm:sup.length≤maxLen:=by unfold maxLen;omega
     have hp0:row.length = 1->p = []:=fun h=>List.length_eq_zero_iff.1 (by omega)
     have hrl:row.length≤100:=by omega
     generalize hse:seen.set k true = seen' at *
     have inner:∀ Q:VE->AF->List Ent->Prop,Q (.ext 2) ⟨(72,.bool false) :: (pq2 l b i k p row seen' sup sup.length).1.tm,[]⟩ (pq2 l b i k p row seen' sup sup.length).2->VI Tryz.prog none 90 0 (.loop q07) Q (pq2 l b i k p row seen' sup 0).1 (pq2 l b i k p row seen' sup 0).2:=fun Q hQ=>by
      refine qi (S:=Nat) (fun j=>j≤sup.length) (pq2 l b i k p row seen' sup) (fun j=>sup.length - j) ?_ fun j hj=>?_
      ·by_cases hr1:row.length = 1
       ·refine qf 0 [0,1] (Nat.zero_le _) rfl (by simp) ?_ ?_ ?_
        all_goals (simp only [pq2,List.take_zero,nxtP,List.append_nil,qjh hr1,qji hr1]<;>(try refine ev_ ?_)<;>(try with_reducible exact ti_)<;>(try simp (disch:=omega) only [qb,and_true,true_and]))
       ·refine qf 0 [0,1,2] (Nat.zero_le _) rfl (by simp) ?_ ?_ ?_
        all_goals (simp only [pq2,List.take_zero,nxtP,List.append_nil,qhb hr1,qg9 hr1]<;>(try refine ev_ ?_)<;>(try with_reducible exact ti_)<;>(try simp (disch:=omega) only [qb,and_true,true_and]))
      by_cases hjl:j < sup.length
      ·have hat:=qea l (sup.getD j [])
       have hsn:nxtP l p (sup.take (j + 1)) 0 = nxtP l p (sup.take j) 0 ++ [(atC (sup.getD j []) l 0,p ++ [(j:Int)])]:=by
        rw [List.take_add_one,List.getElem?_eq_getElem hjl,List.getD_eq_getElem?_getD,List.getElem?_eq_getElem hjl]
        show nxtP l p (sup.take j ++ [sup[j]]) 0 = _
        rw [qpe,List.length_take,Nat.min_eq_left (Nat.le_of_lt hjl),Nat.zero_add];rfl
       have hnl:=qnn l p (sup.take j) 0
       rw [List.length_take] at hnl
       have hsn:row ++ nxtP l p (sup.take (j + 1)) 0 = (row ++ nxtP l p (sup.take j) 0) ++ [(atC (sup.getD j []) l 0,p ++ [(j:Int)])]:=by rw [hsn,List.append_assoc]
       have hr2l:(row ++ nxtP l p (sup.take j) 0).length≤200:=by rw [List.length_append];omega
       have hr2p:(row ++ nxtP l p (sup.take j) 0).length = 1->p = []:=fun h=>hp0 (by rw [List.length_append] at h;have:0 < row.length:=(by omega);omega)
       have hrp:0 < (row ++ nxtP l p (sup.take j) 0).length:=by rw [List.length_append];omega
       unfold pq2
       generalize row ++ nxtP l p (sup.take j) 0 = row2 at *
       generalize atC (sup.getD j []) l 0 = x at *
       have hcap1:qbc 1 8:=capI (by omega)
       have hcap2:qbc (p.length + 1) 8:=capI (by omega)
       have hcap3:qbc (row2.length + 1) 32:=capQ (by omega)
       have hne:(row2 ++ [(x,p ++ [(j:Int)])]).length≠1:=by rw [List.length_append,List.length_cons,List.length_nil];omega
       by_cases hr1:row2.length = 1
       ·have hpn:=hr2p hr1
        subst hpn
        have hne:(row2 ++ [(x,[] ++ [(j:Int)])]).length≠1:=by rw [List.length_append,hr1];simp
        have hcap4:qbc (1 + 1) 32:=capQ (by omega)
        rw [List.nil_append] at hsn hne
        simp only [qjh hr1,qji hr1]
        repeat' (first | refine vs_ ?_ | ((first | refine vr_ ?_ | fail)<;>(try simp (disch:=first | omega | (simp only [List.length_set,List.length_append,List.length_cons,List.length_nil];done) | (simp only [List.length_set,List.length_append,List.length_cons,List.length_nil];omega)) only [qb,go_sem,↓reduceIte])) | ((first | simp (disch:=omega) only [qb8] | (refine cs_ ?_ ?_<;>intro hc) | refine cj_ ?_ | simp (disch:=omega) only [encs_getN,qb] | refine qa hat fun _=>?_ | refine qc hat ?_)<;>(try refine ev_ ?_)) | with_reducible exact ti_)
        rotate_left 1
        ·exfalso;omega
        refine qp3 rfl ?_
        repeat' (first | refine vs_ ?_ | ((first | refine vr_ ?_ | fail)<;>(try simp (disch:=first | omega | (simp only [List.length_set,List.length_append,List.length_cons,List.length_nil];done) | (simp only [List.length_set,List.length_append,List.length_cons,List.length_nil];omega)) only [qb,qjt,qhi,hr1,go_sem,↓reduceIte])) | ((first | simp (disch:=omega) only [hcap1] | simp (disch:=omega) only [hcap2] | simp (disch:=omega) only [hcap3] | simp (disch:=omega) only [hcap4] | (refine cs_ ?_ ?_<;>intro hc) | refine cj_ ?_ | simp (disch:=omega) only [encs_getN,qb])<;>(try refine ev_ ?_)) | with_reducible exact ti_)
        refine qf (j + 1) [0,1,3] ⟨by omega,by omega⟩ rfl (by simp) ?_ ?_ ?_
        all_goals (simp only [pq2,hsn,qhb hne,qg9 hne,List.length_append,List.length_cons,List.length_nil]<;>(try refine ev_ ?_)<;>(try with_reducible exact ti_)<;>(try simp (disch:=omega) only [qb,and_true,true_and]))
        all_goals first | (rw [qh0]) | (rw [hr1]) | trace_state
       ·simp only [qhb hr1,qg9 hr1]
        by_cases hpn:p = []
        ·subst hpn
         rw [List.nil_append] at hsn hne
         repeat' (first | refine vs_ ?_ | ((first | refine vr_ ?_ | fail)<;>(try simp (disch:=first | omega | (simp only [List.length_set,List.length_append,List.length_cons,List.length_nil];done) | (simp only [List.length_set,List.length_append,List.length_cons,List.length_nil];omega)) only [qb,go_sem,↓reduceIte])) | ((first | simp (disch:=omega) only [qb8] | (refine cs_ ?_ ?_<;>intro hc) | refine cj_ ?_ | simp (disch:=omega) only [encs_getN,qb] | refine qa hat fun _=>?_ | refine qc hat ?_)<;>(try refine ev_ ?_)) | with_reducible exact ti_)
         rotate_left 1
         ·exfalso;omega
         refine qp3 rfl ?_
         repeat' (first | refine vs_ ?_ | ((first | refine vr_ ?_ | fail)<;>(try simp (disch:=first | omega | (simp only [List.length_set,List.length_append,List.length_cons,List.length_nil];done) | (simp only [List.length_set,List.length_append,List.length_cons,List.length_nil];omega)) only [qb,qjt,qhi,go_sem,↓reduceIte])) | ((first | simp (disch:=omega) only [hcap1] | simp (disch:=omega) only [hcap2] | simp (disch:=omega) only [hcap3] | (refine cs_ ?_ ?_<;>intro hc) | refine cj_ ?_ | simp (disch:=omega) only [encs_getN,qb])<;>(try refine ev_ ?_)) | with_reducible exact ti_)
         refine qf (j + 1) [0,1,4] ⟨by omega,by omega⟩ rfl (by simp) ?_ ?_ ?_
         all_goals (simp only [pq2,hsn,qhb hne,qg9 hne,List.length_append,List.length_cons,List.length_nil]<;>(try refine ev_ ?_)<;>(try with_reducible exact ti_)<;>(try simp (disch:=omega) only [qb,and_true,true_and]))
         all_goals first | (rw [qh0]) | trace_state
        ·repeat' (first | refine vs_ ?_ | ((first | refine vr_ ?_ | fail)<;>(try simp (disch:=first | omega | (simp only [List.length_set,List.length_append,List.length_cons,List.length_nil];done) | (simp only [List.length_set,List.length_append,List.length_cons,List.length_nil];omega)) only [qb,go_sem,↓reduceIte])) | ((first | simp (disch:=omega) only [qb8] | (refine cs_ ?_ ?_<;>intro hc) | refine cj_ ?_ | simp (disch:=omega) only [encs_getN,qb] | refine qa hat fun _=>?_ | refine qc hat ?_)<;>(try refine ev_ ?_)) | with_reducible exact ti_)
         rotate_left 1
         ·exfalso;omega
         refine q4v hpn (by omega) ?_
         repeat' (first | refine vs_ ?_ | ((first | refine vr_ ?_ | fail)<;>(try simp (disch:=first | omega | (simp only [List.length_set,List.length_append,List.length_cons,List.length_nil];done) | (simp only [List.length_set,List.length_append,List.length_cons,List.length_nil];omega)) only [qb,qjt,qbu,qgz,qhi,go_sem,↓reduceIte])) | ((first | simp (disch:=omega) only [hcap1] | simp (disch:=omega) only [hcap2] | simp (disch:=omega) only [hcap3] | (refine cs_ ?_ ?_<;>intro hc) | refine cj_ ?_ | simp (disch:=omega) only [encs_getN,qb])<;>(try refine ev_ ?_)) | with_reducible exact ti_)
         refine qf (j + 1) [0,1,5] ⟨by omega,by omega⟩ rfl (by simp) ?_ ?_ ?_
         all_goals (simp only [pq2,hsn,qhb hne,qg9 hne,List.length_append,List.length_cons,List.length_nil]<;>(try refine ev_ ?_)<;>(try with_reducible exact ti_)<;>(try simp (disch:=omega) only [qb,and_true,true_and]))
         all_goals first | (rw [qh0]) | (rw [q9t,qhi,qh0]) | trace_state
      ·have hje:j = sup.length:=by omega
       subst hje
       have hlt':¬ (sup.length:Int) < (sup.length:Int):=by omega
       unfold pq2 at hQ ⊢
       dsimp only at hQ ⊢
       generalize row ++ nxtP l p (sup.take sup.length) 0 = row3 at *
       by_cases hr1:row3.length = 1
       ·simp only [qjh hr1,qji hr1] at hQ ⊢
        repeat' (first | refine vs_ ?_ | ((first | refine vr_ ?_ | fail)<;>(try simp (disch:=first | omega | (simp only [List.length_set,List.length_append,List.length_cons,List.length_nil];done) | (simp only [List.length_set,List.length_append,List.length_cons,List.length_nil];omega)) only [qb,hlt',go_sem,↓reduceIte])) | ((first | (refine cs_ ?_ ?_<;>intro hc) | refine cj_ ?_ | simp (disch:=omega) only [encs_getN,qb])<;>(try refine ev_ ?_)) | with_reducible exact ti_)
        all_goals first | exact hQ | trace_state
       ·simp only [qhb hr1,qg9 hr1] at hQ ⊢
        repeat' (first | refine vs_ ?_ | ((first | refine vr_ ?_ | fail)<;>(try simp (disch:=first | omega | (simp only [List.length_set,List.length_append,List.length_cons,List.length_nil];done) | (simp only [List.length_set,List.length_append,List.length_cons,List.length_nil];omega)) only [qb,hlt',go_sem,↓reduceIte])) | ((first | (refine cs_ ?_ ?_<;>intro hc) | refine cj_ ?_ | simp (disch:=omega) only [encs_getN,qb])<;>(try refine ev_ ?_)) | with_reducible exact ti_)
        all_goals first | exact hQ | trace_state
     have hpg:PI l b res ⟨f,i + 1,row ++ nxtP l p (sup.take sup.length) 0,seen'⟩:=by
      rw [List.take_of_length_le (Nat.le_refl _)]
      have hnl:=qnn l p sup 0
      have hsl':seen'.length = seen.length:=by rw [← hse];simp
      refine ⟨by dsimp only;omega,by dsimp only;rw [List.length_append];omega,by simp [zc],?_,?_,?_,?_,?_⟩
      ·intro q hq
       rcases List.mem_append.1 hq with hq | hq
       ·exact zd q hq
       ·obtain ⟨s,hs,h1,_⟩:=qju hq
        rw [h1]
        obtain ⟨g1,g2⟩:=qbnd (hcs s hs)
        omega
      ·intro m hm
       dsimp only at hm ⊢
       rw [List.length_append] at hm
       by_cases hmr:m < row.length
       ·rw [List.getD_eq_getElem?_getD,List.getElem?_append_left hmr,← List.getD_eq_getElem?_getD]
        exact ze m hmr
       ·rw [List.getD_eq_getElem?_getD,List.getElem?_append_right (by omega),List.getElem?_eq_getElem (by omega)]
        obtain ⟨s,hs,_,h2⟩:=qju (List.getElem_mem (l:=nxtP l p sup 0) (show m - row.length < (nxtP l p sup 0).length by omega))
        show (nxtP l p sup 0)[m - row.length].2.length≤m
        rw [h2];omega
      ·dsimp only;rw [List.length_append];omega
      ·dsimp only;rw [List.length_append];omega
      ·dsimp only
       rw [List.drop_append_of_le_length (by omega)]
       exact zh
     have hfin:∀ (T:List (Nat×AV)) (row3:List (Int×List Int)),PI l b res ⟨f,i + 1,row3,seen'⟩->V.get T 0 = .sl 3 (qci l)->V.get T 9 = .int .i64 b->V.get T 10 = .row 0 l.length->V.get T 11 = rwV 2 row3->V.get T 12 = .int .i64 ((i + 1:Nat):Int) →
      At PQ (fun s'=>PI l b res s'∧s'.f < f + 1) (pqSt l b) 0 ⟨T,[]⟩ (.mrow 1 (bl seen') :: .blk [.int .i64 k,.sl 1 (ints p)] :: rwE row3):=fun T row3 h3 t0 t9 t10 t11 t12=>by
      by_cases hr1:row3.length = 1
      ·rw [qji hr1]
       rw [qjh hr1] at t11
       refine qf ⟨f,i + 1,row3,seen'⟩ [0] ⟨h3,by dsimp only;omega⟩ rfl (by simp) ?_ ?_ ?_
       all_goals (simp only [pqSt,qjh hr1,qji hr1]<;>(try refine ev_ ?_)<;>(try with_reducible exact ti_)<;>(try simp (disch:=omega) only [qb,and_true,true_and]))
       all_goals simp only [t0,t9,t10,t11,t12,and_self]
      ·rw [qg9 hr1]
       rw [qhb hr1] at t11
       refine qf ⟨f,i + 1,row3,seen'⟩ [0,2] ⟨h3,by dsimp only;omega⟩ rfl (by simp) ?_ ?_ ?_
       all_goals (simp only [pqSt,qhb hr1,qg9 hr1]<;>(try refine ev_ ?_)<;>(try with_reducible exact ti_)<;>(try simp (disch:=omega) only [qb,and_true,true_and]))
       all_goals simp only [t0,t9,t10,t11,t12,and_self]
     have hsup:sup.length≤maxLen:=hsm
     by_cases hr1:row.length = 1
     ·simp only [qjh hr1,qji hr1]
      repeat' (first | refine vs_ ?_ | ((first | refine vr_ ?_ | fail)<;>(try simp (disch:=first | omega | (simp only [List.length_set,List.length_append,List.length_cons,List.length_nil];done) | (simp only [List.length_set,List.length_append,List.length_cons,List.length_nil];omega)) only [hg,hcb,hgb,hkn,hk2,hc1,hkl,hgc,hse,qfq,qzz,qb,qdl,go_sem,↓reduceIte])) | ((first | simp (disch:=omega) only [hg] | (refine cs_ ?_ ?_<;>intro hc) | refine cj_ ?_ | simp (disch:=omega) only [encs_getN,qb])<;>(try refine ev_ ?_)) | with_reducible exact ti_)
      all_goals try (exfalso;omega)
      refine qop (S:=Unit) (Inv:=fun _=>True) (st:=fun _=>pq2 l b i k p row seen' sup 0) ?_ fun _ _=>inner _ ?_
      ·refine qf () [0,1] trivial rfl (by simp) ?_ ?_ ?_
       all_goals (simp only [pq2,List.take_zero,nxtP,List.append_nil,qjh hr1,qji hr1]<;>(try refine ev_ ?_)<;>(try with_reducible exact ti_)<;>(try simp (disch:=omega) only [qb,and_true,true_and]))
       all_goals trace_state
      ·unfold pq2
       dsimp only
       generalize row ++ nxtP l p (sup.take sup.length) 0 = row3 at *
       repeat' (first | refine vs_ ?_ | ((first | refine vr_ ?_ | fail)<;>(try simp (disch:=first | omega | (simp only [List.length_set,List.length_append,List.length_cons,List.length_nil];done) | (simp only [List.length_set,List.length_append,List.length_cons,List.length_nil];omega)) only [qb,go_sem,↓reduceIte])) | ((first | (refine cs_ ?_ ?_<;>intro hc) | refine cj_ ?_ | simp (disch:=omega) only [encs_getN,qb])<;>(try refine ev_ ?_)) | with_reducible exact ti_)
       exact hfin _ row3 hpg rfl rfl rfl rfl rfl
     ·simp only [qhb hr1,qg9 hr1]
      repeat' (first | refine vs_ ?_ | ((first | refine vr_ ?_ | fail)<;>(try simp (disch:=first | omega | (simp only [List.length_set,List.length_append,List.length_cons,List.length_nil];done) | (simp only [List.length_set,List.length_append,List.length_cons,List.length_nil];omega)) only [hg,hcb,hgb,hkn,hk2,hc1,hkl,hgc,hse,qfq,qzz,qb,qdl,go_sem,↓reduceIte])) | ((first | simp (disch:=omega) only [hg] | (refine cs_ ?_ ?_<;>intro hc) | refine cj_ ?_ | simp (disch:=omega) only [encs_getN,qb])<;>(try refine ev_ ?_)) | with_reducible exact ti_)
      all_goals try (exfalso;omega)
      refine qop (S:=Unit) (Inv:=fun _=>True) (st:=fun _=>pq2 l b i k p row seen' sup 0) ?_ fun _ _=>inner _ ?_
      ·refine qf () [0,2,1] trivial rfl (by simp) ?_ ?_ ?_
       all_goals (simp only [pq2,List.take_zero,nxtP,List.append_nil,qhb hr1,qg9 hr1]<;>(try refine ev_ ?_)<;>(try with_reducible exact ti_)<;>(try simp (disch:=omega) only [qb,and_true,true_and]))
       all_goals trace_state
      ·unfold pq2
       dsimp only
       generalize row ++ nxtP l p (sup.take sup.length) 0 = row3 at *
       repeat' (first | refine vs_ ?_ | ((first | refine vr_ ?_ | fail)<;>(try simp (disch:=first | omega | (simp only [List.length_set,List.length_append,List.length_cons,List.length_nil];done) | (simp only [List.length_set,List.length_append,List.length_cons,List.length_nil];omega)) only [qb,go_sem,↓reduceIte])) | ((first | (refine cs_ ?_ ?_<;>intro hc) | refine cj_ ?_ | simp (disch:=omega) only [encs_getN,qb])<;>(try refine ev_ ?_)) | with_reducible exact ti_)
       exact hfin _ row3 hpg rfl rfl rfl rfl rfl
  ·rw [List.drop_of_length_le (by omega)] at zh
   have hr0:res = ([],false):=by
    obtain ⟨f,rfl⟩:∃ f',f = f' + 1:=⟨f - 1,by omega⟩
    rw [← zh];rfl
   rw [hr0]
   by_cases hr1:row.length = 1
   ·simp only [qjh hr1,qji hr1]
    repeat' (first | refine vs_ ?_ | ((first | refine vr_ ?_ | fail)<;>(try simp (disch:=first | omega | (simp only [List.length_set,List.length_append,List.length_cons,List.length_nil];done) | (simp only [List.length_set,List.length_append,List.length_cons,List.length_nil];omega)) only [qb,qdl,go_sem,↓reduceIte])) | ((first | (refine cs_ ?_ ?_<;>intro hc) | refine cj_ ?_ | simp (disch:=omega) only [encs_getN,qb])<;>(try refine ev_ ?_)) | with_reducible exact ti_)
    all_goals first | (exfalso;omega) | rfl | trace_state
   ·simp only [qhb hr1,qg9 hr1]
    repeat' (first | refine vs_ ?_ | ((first | refine vr_ ?_ | fail)<;>(try simp (disch:=first | omega | (simp only [List.length_set,List.length_append,List.length_cons,List.length_nil];done) | (simp only [List.length_set,List.length_append,List.length_cons,List.length_nil];omega)) only [qb,qdl,go_sem,↓reduceIte])) | ((first | (refine cs_ ?_ ?_<;>intro hc) | refine cj_ ?_ | simp (disch:=omega) only [encs_getN,qb])<;>(try refine ev_ ?_)) | with_reducible exact ti_)
    all_goals first | (exfalso;omega) | rfl | trace_state
end Go.Proofs.YtgglaabljlhliaaGreat

/- proofs as data; how great they are -/
set_option maxRecDepth 4000
namespace Go.V
open Go Go.RowKit

inductive Prf where
 | mk (kind num:Int) (types:List Ty) (kids:List Prf)
def Prf.kind:Prf->Int | .mk k _ _ _=>k
def Prf.num:Prf->Int | .mk _ n _ _=>n
def Prf.types:Prf->List Ty | .mk _ _ t _=>t
def Prf.kids:Prf->List Prf | .mk _ _ _ ks=>ks
mutual
def qbo:Prf->AV
 | .mk k n t ks=>.agg [.int .i64 k,.int .i64 n,.sl 3 (qt t),.sl 4 (qs ks)]
def qs:List Prf->List AV
 | []=>[]
 | x :: r=>qbo x :: qs r
end
theorem q9 (l:List Prf):qs l = l.map qbo:=by
 induction l with
 | nil=>rfl
 | cons x r ih=>simp [qs,ih]
abbrev rcP (n:Prf):List AV:=[.int .i64 n.kind,.int .i64 n.num,.sl 3 (qt n.types),.sl 4 (qs n.kids)]
theorem qc2 (n:Prf):AV.agg [.int .i64 n.kind,.int .i64 n.num,.sl 3 (qt n.types),.sl 4 (qs n.kids)] = qbo n:=by
 cases n;simp only [qbo,Prf.kind,Prf.num,Prf.types,Prf.kids]
theorem qsm (n:Prf):(qbo n).cells = rcP n:=by rw [← qc2];rfl
theorem Prf.ind {p:Prf->Prop} (h:∀ n:Prf,(∀ x∈n.kids,p x)->p n):∀ n,p n:=by
 intro n
 refine Prf.rec (motive_1:=p) (motive_2:=fun l=>∀ x∈l,p x) (fun k n t ks ih=>h (.mk k n t ks) ih) (fun x hx=>by cases hx) (fun x r h1 h2 y hy=>?_) n
 rcases List.mem_cons.1 hy with rfl | hy
 ·exact h1
 ·exact h2 y hy
theorem qf1 (k:Nat):∀ n,(qbo n).bd k = true:=Prf.ind fun n ih=>by
 have h1:AV.bds k (qs n.kids) = true:=by
  rw [q9,qb2,List.all_map,List.all_eq_true];exact ih
 rw [← qc2 n]
 simp only [AV.bd,AV.bds,qck,h1,Bool.and_true]
theorem qfb (k:Nat) (l:List Prf):AV.bds k (qs l) = true:=by
 rw [q9,qb2,List.all_map,List.all_eq_true];exact fun x _=>qf1 k x
theorem q2w (σ:Nat->Nat) (n:Prf):(qbo n).ren σ = qbo n:=ren_same (m:=0) (fun i hi=>by omega) _ (qf1 0 n)
theorem qiu (σ:Nat->Nat) (l:List Prf):AV.rens σ (qs l) = qs l:=qj (m:=0) (fun i hi=>by omega) _ (qfb 0 l)
theorem q8y (H:List Ent) (n:Prf):co H (.agg [.id,.id,.sl 3,.sl 4]) (qbo n) = qbo n:=by
 rw [← qc2];simp only [qg4,qdk,qet,qka,qdo]
theorem qxy (n:Prf):rdCo (.agg [.id,.id,.sl 3,.sl 4]) (qbo n) = []:=by
 rw [← qc2];simp only [qd5,qcm,qc7,qgt,qcn,List.append_nil]
theorem qz8 (n:Prf):(qbo n).isAgg = true:=by cases n;rfl
theorem qoh (n:Prf):(qbo n).leaf = false:=by cases n;rfl
theorem qw (l:List Prf):(qs l).length = l.length:=by rw [q9];simp
def Pf0:Prf:=.mk 0 0 [] []
theorem qt2 {l:List Prf} {i:Nat} (h:i < l.length):(qs l).getD i .junk = qbo (l.getD i Pf0):=by
 rw [q9,List.getD_eq_getElem?_getD,List.getElem?_map,List.getElem?_eq_getElem h,List.getD_eq_getElem?_getD,List.getElem?_eq_getElem h];rfl
theorem qzj {l:List Prf} {i:Nat} (h:i < l.length):l.getD i Pf0∈l:=by
 rw [List.getD_eq_getElem?_getD,List.getElem?_eq_getElem h];exact List.getElem_mem h
theorem qbu8 {l:List Prf} {i:Nat} (h:i < l.length):l.drop i = l.getD i Pf0 :: l.drop (i + 1):=by
 rw [List.drop_eq_getElem_cons h,List.getD_eq_getElem?_getD,List.getElem?_eq_getElem h];rfl
theorem q26 (b:Bool) (n off:Nat) (x:Prf):fldv b n off (qbo x) = ldc b n off (rcP x):=by rw [← qc2];rfl
theorem qmj (x:Prf):[qbo x] = qs [x]:=by rw [q9];rfl
theorem qeu (l:List Prf) (x:Prf):qs l ++ [qbo x] = qs (l ++ [x]):=by rw [q9,q9];simp
theorem qge:AV.agg [.int .i64 0,.int .i64 0,.sl 3 [],.sl 4 []] = qbo Pf0:=by simp only [Pf0,qbo,qt,qs]
attribute [go_sem] rcP q26 qxy qf1 qfb q2w qiu q8y qz8 qsm qc2 qoh qw
mutual
def szPf:Prf->Int
 | .mk _ _ _ ks=>1 + qcp ks
def qcp:List Prf->Int
 | []=>0
 | x :: r=>szPf x + qcp r
end
theorem qnk (x:Prf):szPf x = 1 + qcp x.kids:=by cases x;rw [szPf];rfl
theorem qj6:∀ a b:List Prf,qcp (a ++ b) = qcp a + qcp b
 | [],b=>by rw [List.nil_append,qcp];omega
 | x :: a,b=>by rw [List.cons_append,qcp,qcp,qj6 a b];omega
theorem qnp:∀ x,1≤szPf x:=Prf.ind fun x ih=>by
 rw [qnk]
 have:∀ l:List Prf,(∀ y∈l,1≤szPf y)->0≤qcp l:=fun l=>by
  induction l with
  | nil=>exact fun _=>Int.le_refl _
  | cons y r ihl=>intro h;rw [qcp];have:=h y (by simp);have:=ihl fun z hz=>h z (by simp [hz]);omega
 have:=this x.kids ih
 omega
end Go.V
namespace Go.Proofs.YtgglaabljlhliaaGreat
open Go Go.RowKit Go.V
theorem qui (l:List Prf):0≤qcp l:=by
 induction l with
 | nil=>exact Int.le_refl _
 | cons y r ih=>rw [qcp];have:=qnp y;omega
theorem qs5:∀ x:Prf,szPf x≤1000000000->qg Tryz.prog 84 [qbo x] (.int .i64 (szPf x)):=by
 refine Prf.ind fun x ih hx=>?_
 refine qd c0b (by simp) (by simp only [go_sem]) rfl fun hw=>?_
 have hkl:x.kids.length≤maxLen:=by
  have h:=hw.1
  rw [← qc2] at h
  have:=h.2.2.2.1.1
  rwa [qw] at this
 repeat' (first | refine vs_ ?_ | ((first | refine vr_ ?_ | (refine cs_ ?_ ?_<;>intro hc) | refine cj_ ?_ | simp (disch:=omega) only [encs_getN,qb])<;>(try refine ev_ ?_)) | with_reducible exact ti_)
 refine qi (S:=Nat) (fun i=>i≤x.kids.length) (fun i=>(⟨[(3,.int .i64 (1 + qcp (x.kids.take i))),(7,.sl 4 (qs x.kids)),(8,.int .i64 x.kids.length),(9,.int .i64 i)],[]⟩,[])) (fun i=>x.kids.length - i) ?_ fun i hi=>?_
 ·have h0:qcp ([]:List Prf) = 0:=by rw [qcp]
  refine qf 0 [] (Nat.zero_le _) rfl (by simp) ?_ ?_ ?_<;>simp only [List.take_zero,h0,Int.add_zero]<;>(try refine ev_ ?_)<;>(try with_reducible exact ti_)<;>(try simp (disch:=omega) only [qb,and_true,true_and])
 ·have hs:=qnk x
  have hnn:=qui (x.kids.take i)
  by_cases hlt:i < x.kids.length
  ·have hg:=qt2 hlt
   have hsp:x.kids = x.kids.take i ++ (x.kids.getD i Pf0 :: x.kids.drop (i + 1)):=by rw [← qbu8 hlt,List.take_append_drop]
   have hsz:qcp x.kids = qcp (x.kids.take i) + (szPf (x.kids.getD i Pf0) + qcp (x.kids.drop (i + 1))):=by
    exact (congrArg qcp hsp).trans (by rw [qj6,qcp])
   have hdn:=qui (x.kids.drop (i + 1))
   have hpk:=qnp (x.kids.getD i Pf0)
   have hk:=ih _ (qzj hlt) (by omega)
   have htk:qcp (x.kids.take (i + 1)) = qcp (x.kids.take i) + szPf (x.kids.getD i Pf0):=by
    rw [List.take_add_one,List.getElem?_eq_getElem hlt,List.getD_eq_getElem?_getD,List.getElem?_eq_getElem hlt,qj6]
    show _ + qcp [x.kids[i]] = _ + szPf x.kids[i]
    rw [qcp,qcp];omega
   generalize szPf (x.kids.getD i Pf0) = y at *
   generalize qcp (x.kids.take i) = z at *
   have hw1:IntKind.i64.wrap (1 + z + y) = 1 + z + y:=q7 (by omega) (by omega)
   repeat' (first | refine vs_ ?_ | ((first | refine vr_ ?_ | fail)<;>(try simp (disch:=first | omega | (simp only [List.length_set,List.length_append,List.length_cons,List.length_nil];done) | (simp only [List.length_set,List.length_append,List.length_cons,List.length_nil];omega)) only [hg,qb,hw1,go_sem,↓reduceIte])) | ((first | simp (disch:=omega) only [hg] | (refine cs_ ?_ ?_<;>intro hc) | refine cj_ ?_ | simp (disch:=omega) only [encs_getN,qb] | refine qa hk fun _=>?_)<;>(try refine ev_ ?_)) | with_reducible exact ti_)
   all_goals try (exfalso;omega)
   refine qf (i + 1) [] ⟨by omega,by omega⟩ rfl (by simp) ?_ ?_ ?_<;>simp only [htk]<;>(try refine ev_ ?_)<;>(try with_reducible exact ti_)<;>(try simp (disch:=omega) only [qb,and_true,true_and])
   all_goals first | (rw [Int.add_assoc]) | trace_state
  ·rw [List.take_of_length_le (by omega)]
   have hlt':¬ (i:Int) < (x.kids.length:Int):=by omega
   repeat' (first | refine vs_ ?_ | ((first | refine vr_ ?_ | fail)<;>(try simp only [hlt',go_sem,↓reduceIte])) | ((first | (refine cs_ ?_ ?_<;>intro hc) | refine cj_ ?_ | simp (disch:=omega) only [encs_getN,qb])<;>(try refine ev_ ?_)) | with_reducible exact ti_)
   all_goals rw [hs]
end Go.Proofs.YtgglaabljlhliaaGreat

/- what follows by what is given alone -/
set_option maxRecDepth 4000
namespace Go.V
open Go Go.RowKit
structure Env where
 ds:List AV
 hd:AV.bds 0 ds = true
 cs:List Cls
 is:List Ins
def encV (x:Env):AV:=.agg [.sl 3 x.ds,.sl 3 (qci x.cs),.sl 4 (qcx x.is)]
abbrev evc (x:Env):List AV:=[.sl 3 x.ds,.sl 3 (qci x.cs),.sl 4 (qcx x.is)]
theorem q1v (x:Env):AV.agg [.sl 3 x.ds,.sl 3 (qci x.cs),.sl 4 (qcx x.is)] = encV x:=rfl
theorem qxl (x:Env):(encV x).cells = evc x:=rfl
theorem qbzb (k:Nat) (x:Env):AV.bds k x.ds = true:=q0y x.hd k
theorem qb2y (σ:Nat->Nat) (x:Env):AV.rens σ x.ds = x.ds:=qj (m:=0) (fun i hi=>by omega) _ x.hd
theorem q1l (k:Nat) (x:Env):(encV x).bd k = true:=by simp only [encV,AV.bd,AV.bds,qbzb,qng,qnh,Bool.and_true]
theorem qbar (σ:Nat->Nat) (x:Env):(encV x).ren σ = encV x:=ren_same (m:=0) (fun i hi=>by omega) _ (q1l 0 x)
theorem qbev (H:List Ent) (x:Env):co H (.agg [.sl 3,.sl 3,.sl 4]) (encV x) = encV x:=by
 simp only [encV,qg4,qdk,qet,qdo]
theorem q17 (x:Env):rdCo (.agg [.sl 3,.sl 3,.sl 4]) (encV x) = []:=by
 simp only [encV,qd5,qcm,qc7,qcn,List.append_nil]
theorem qbba (x:Env):(encV x).isAgg = true:=rfl
theorem qpz (x:Env):(encV x).leaf = false:=rfl
theorem q7s (b:Bool) (n off:Nat) (x:Env):fldv b n off (encV x) = ldc b n off (evc x):=rfl
attribute [go_sem] evc q7s q17 q1l qbar qbev qbba qxl q1v qpz qbzb qb2y
end Go.V
namespace Go.Proofs.YtgglaabljlhliaaGreat
open Go Go.RowKit Go.V
def supW (x:Prf) (ns:List Int):Prf:=ns.foldl (fun x n=>.mk 2 n [] [x]) x
def supF (cs:List Cls) (p:Pd):List Pd->Nat->Option Prf
 | [],_=>none
 | q :: r,i=>if qgg q.ty p.ty = true then (if (pthC cs q.cls p.cls).2 = true then some (supW (.mk 1 i [] []) (pthC cs q.cls p.cls).1) else supF cs p r (i + 1)) else supF cs p r (i + 1)
def supA (r:Option Prf):AV:=match r with
 | some x=>.tup [qbo x,.bool true]
 | none=>.tup [qbo Pf0,.bool false]
theorem qkj {l:List Pd} {i:Nat} (h:i < l.length):l.getD i P0∈l:=by
 rw [List.getD_eq_getElem?_getD,List.getElem?_eq_getElem h];exact List.getElem_mem h
theorem qoy (l:List Cls) (b:Int):∀ (f:Nat) (q:List (Int×List Int)) (seen:List Bool) (B:Nat),(∀ x∈q,x.2.length≤B)->(pthF l b f q seen).1.length≤B + f
 | 0,q,seen,B,h=>by simp [pthF]
 | f + 1,[],seen,B,h=>by simp [pthF]
 | f + 1, (c, p) :: q, seen, B, h => by
   rw [pthF]
   have hp:=h (c,p) (by simp)
   split
   ·dsimp only at hp ⊢;omega
   ·split
    ·have:=qoy l b f q seen B fun x hx=>h x (by simp [hx]);omega
    ·have:=qoy l b f (q ++ nxtP l p (l.getD c.toNat C0).sup 0) (seen.set c.toNat true) (B + 1) (fun x hx=>by
      rcases List.mem_append.1 hx with hx | hx
      ·have:=h x (by simp [hx]);omega
      ·obtain ⟨_,_,_,h2⟩:=qju hx
       dsimp only at hp
       omega)
     omega
theorem qwb (l:List Cls) (u v:List UInt8):(pthC l u v).1.length≤200:=by
 unfold pthC
 split
 ·simp
 ·split
  ·simp
  ·split
   ·have:=qoy l (atC v l 0) 200 [(atC u l 0,[])] (List.replicate l.length false) 0 (fun x hx=>by simp only [List.mem_singleton] at hx;subst hx;simp)
    omega
   ·simp
theorem q24 (x:Prf) (ns:List Int) (n:Int):supW x (ns ++ [n]) = .mk 2 n [] [supW x ns]:=by simp [supW]
set_option maxHeartbeats 1000000 in
theorem qi0 {e:Env} (hf:fewC e.cs) (g:List Pd) (p:Pd):qg Tryz.prog 23 [encV e,.sl 4 (qn g),encP p] (supA (supF e.cs p g 0)):=by
 refine qd c0a (by simp) (by simp only [go_sem]) (by cases supF e.cs p g 0<;>simp only [supA,AV.bd,AV.bds,qf1,Bool.and_true]) fun hw=>?_
 have hl:=(qcq hw.2.1).1
 repeat' (first | refine vs_ ?_ | ((first | refine vr_ ?_ | (refine cs_ ?_ ?_<;>intro hc) | refine cj_ ?_ | simp (disch:=omega) only [encs_getN,qb])<;>(try refine ev_ ?_)) | with_reducible exact ti_)
 refine qi (S:=Nat) (fun i=>i≤g.length∧supF e.cs p (g.drop i) i = supF e.cs p g 0) (fun i=>(⟨[(3,.ptr 0 0),(5,.ptr 1 0),(6,.ptr 2 0),(15,.sl 4 (qn g)),(16,.int .i64 g.length),(17,.int .i64 i)],[]⟩,[.blk (evc e),.blk (pdc p),.blk [.int .i64 0,.int .i64 0,.nils,.nils]])) (fun i=>g.length - i) ?_ fun i hi=>?_
 ·refine qf 0 [0,1,2] ⟨Nat.zero_le _,rfl⟩ rfl (by simp) ?_ ?_ ?_<;>(try refine ev_ ?_)<;>(try with_reducible exact ti_)<;>(try simp (disch:=omega) only [qb,and_true,true_and])
 obtain ⟨hi,ha⟩:=hi
 by_cases hlt:i < g.length
 ·have hg:=qb1 hlt
  rw [V.dropP hlt,supF] at ha
  have hs:=qyr (g.getD i P0).ty p.ty
  have hp:=qsr hf (g.getD i P0).cls p.cls
  generalize g.getD i P0 = q at *
  have hltI:(i:Int) < (g.length:Int):=by omega
  generalize qgg q.ty p.ty = sm at *
  cases sm with
  | false =>
    rw [if_neg (by simp)] at ha
    repeat' (first | refine vs_ ?_ | ((first | refine vr_ ?_ | fail)<;>(try simp (disch:=first | omega | (simp only [List.length_set,List.length_append,List.length_cons,List.length_nil];done) | (simp only [List.length_set,List.length_append,List.length_cons,List.length_nil];omega)) only [hg,hltI,qb,go_sem,↓reduceIte])) | ((first | simp (disch:=omega) only [hg] | (refine cs_ ?_ ?_<;>intro hc) | refine cj_ ?_ | simp (disch:=omega) only [encs_getN,qb] | refine qa hs fun _=>?_)<;>(try refine ev_ ?_)) | with_reducible exact ti_)
    refine qf (i + 1) [0,1,2] ⟨⟨by omega,ha⟩,by omega⟩ rfl (by simp) ?_ ?_ ?_<;>(try refine ev_ ?_)<;>(try with_reducible exact ti_)<;>(try simp (disch:=omega) only [qb,and_true,true_and])
  | true =>
    rw [if_pos rfl] at ha
    have hpl:=qwb e.cs q.cls p.cls
    generalize pthC e.cs q.cls p.cls = pc at *
    obtain ⟨ns,ok⟩:=pc
    dsimp only at ha hp hpl
    have hnm:ns.length≤maxLen:=by unfold maxLen;omega
    cases ok with
    | false =>
      rw [if_neg (by simp)] at ha
      repeat' (first | refine vs_ ?_ | ((first | refine vr_ ?_ | fail)<;>(try simp (disch:=first | omega | (simp only [List.length_set,List.length_append,List.length_cons,List.length_nil];done) | (simp only [List.length_set,List.length_append,List.length_cons,List.length_nil];omega)) only [hg,hltI,qb,go_sem,↓reduceIte])) | ((first | simp (disch:=omega) only [hg] | (refine cs_ ?_ ?_<;>intro hc) | refine cj_ ?_ | simp (disch:=omega) only [encs_getN,qb] | refine qa hs fun _=>?_ | refine qa hp fun _=>?_)<;>(try refine ev_ ?_)) | with_reducible exact ti_)
      refine qf (i + 1) [0,1,2] ⟨⟨by omega,ha⟩,by omega⟩ rfl (by simp) ?_ ?_ ?_<;>(try refine ev_ ?_)<;>(try with_reducible exact ti_)<;>(try simp (disch:=omega) only [qb,and_true,true_and])
    | true =>
      rw [if_pos rfl] at ha
      repeat' (first | refine vs_ ?_ | ((first | refine vr_ ?_ | fail)<;>(try simp (disch:=first | omega | (simp only [List.length_set,List.length_append,List.length_cons,List.length_nil];done) | (simp only [List.length_set,List.length_append,List.length_cons,List.length_nil];omega)) only [hg,hltI,qb,go_sem,↓reduceIte])) | ((first | simp (disch:=omega) only [hg] | (refine cs_ ?_ ?_<;>intro hc) | refine cj_ ?_ | simp (disch:=omega) only [encs_getN,qb] | refine qa hs fun _=>?_ | refine qa hp fun _=>?_)<;>(try refine ev_ ?_)) | with_reducible exact ti_)
      refine qkg 4 2 (.sl 3) rfl ?_
      simp only [List.set_cons_zero,List.set_cons_succ,List.getD_cons_zero,List.getD_cons_succ,qbb]
      refine qkg 4 3 (.sl 4) rfl ?_
      simp only [List.set_cons_zero,List.set_cons_succ,List.getD_cons_zero,List.getD_cons_succ,qbb]
      refine qi (S:=Nat) (fun j=>j≤ns.length) (fun j=>(⟨[(6,.ptr 2 0),(12,.ptr 3 0),(42,.sl 1 (ints ns)),(43,.int .i64 ns.length),(44,.int .i64 j)],[]⟩,[.blk (evc e),.blk (pdc p),.blk [.int .i64 0,.int .i64 0,.nils,.nils],.blk (rcP (supW (.mk 1 i [] []) (ns.take j)))])) (fun j=>ns.length - j) ?_ fun j hj=>?_
      ·refine qf 0 [0,1,2,4] (Nat.zero_le _) rfl (by simp) ?_ ?_ ?_
       all_goals (skip<;>(try refine ev_ ?_)<;>(try with_reducible exact ti_)<;>(try simp (disch:=omega) only [qb,and_true,true_and]))
       all_goals first | (simp only [List.take_zero,supW,List.foldl_nil,Prf.kind,Prf.num,Prf.types,Prf.kids,qt,qs];done) | trace_state
      ·by_cases hjl:j < ns.length
       ·have hjI:(j:Int) < (ns.length:Int):=by omega
        have hgi:=qlf hjl
        have hsn:=q24 (.mk 1 i [] []) (ns.take j) (ns.getD j 0)
        rw [← qbya hjl] at hsn
        generalize supW (.mk 1 i [] []) (ns.take j) = x at *
        generalize ns.getD j 0 = n at *
        unfold q3f
        generalize hz:qzr = z14
        repeat' (first | refine vs_ ?_ | ((first | refine vr_ ?_ | fail)<;>(try simp (disch:=first | omega | (simp only [List.length_set,List.length_append,List.length_cons,List.length_nil];done) | (simp only [List.length_set,List.length_append,List.length_cons,List.length_nil];omega)) only [hgi,hjI,qb,go_sem,↓reduceIte])) | ((first | (refine cs_ ?_ ?_<;>intro hc) | refine cj_ ?_ | simp (disch:=omega) only [encs_getN,qb])<;>(try refine ev_ ?_)) | with_reducible exact ti_)
        subst hz
        refine qkg 3 2 (.sl 3) rfl ?_
        simp only [List.set_cons_zero,List.set_cons_succ,List.getD_cons_zero,List.getD_cons_succ,qbb]
        refine qkg 3 3 (.sl 4) rfl ?_
        simp only [List.set_cons_zero,List.set_cons_succ,List.getD_cons_zero,List.getD_cons_succ,qqb]
        repeat' (first | refine vs_ ?_ | ((first | refine vr_ ?_ | fail)<;>(try simp (disch:=first | omega | (simp only [List.length_set,List.length_append,List.length_cons,List.length_nil];done) | (simp only [List.length_set,List.length_append,List.length_cons,List.length_nil];omega)) only [qb,go_sem,↓reduceIte])) | ((first | (refine cs_ ?_ ?_<;>intro hc) | refine cj_ ?_ | simp (disch:=omega) only [encs_getN,qb])<;>(try refine ev_ ?_)) | with_reducible exact ti_)
        refine qf (j + 1) [0,1,2,3] ⟨by omega,by omega⟩ rfl (by simp) ?_ ?_ ?_
        all_goals (simp only [hsn,rcP,Prf.kind,Prf.num,Prf.types,Prf.kids]<;>(try refine ev_ ?_)<;>(try with_reducible exact ti_)<;>(try simp (disch:=omega) only [qb,and_true,true_and]))
        all_goals first | (simp only [qt,qs];done) | trace_state
       ·have hjI:¬ (j:Int) < (ns.length:Int):=by omega
        rw [List.take_of_length_le (by omega)]
        rw [← ha]
        repeat' (first | refine vs_ ?_ | ((first | refine vr_ ?_ | fail)<;>(try simp only [hjI,go_sem,↓reduceIte])) | ((first | (refine cs_ ?_ ?_<;>intro hc) | refine cj_ ?_ | simp (disch:=omega) only [encs_getN,qb])<;>(try refine ev_ ?_)) | with_reducible exact ti_)
        all_goals rfl
 ·rw [List.drop_of_length_le (by omega),supF] at ha
  have hltI:¬ (i:Int) < (g.length:Int):=by omega
  rw [← ha]
  repeat' (first | refine vs_ ?_ | ((first | refine vr_ ?_ | fail)<;>(try simp only [hltI,go_sem,↓reduceIte])) | ((first | (refine cs_ ?_ ?_<;>intro hc) | refine cj_ ?_ | simp (disch:=omega) only [encs_getN,qb])<;>(try refine ev_ ?_)) | with_reducible exact ti_)
  all_goals first | (simp only [supA,← qge];done) | trace_state
end Go.Proofs.YtgglaabljlhliaaGreat
