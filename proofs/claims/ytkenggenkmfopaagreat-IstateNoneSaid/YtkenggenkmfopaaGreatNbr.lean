/- Texts of this proof, joined. -/
import Derived.Test.YtkenggenkmfopaaGreatNbk
import Derived.Test.YtkenggenkmfopaaGreatNbc
set_option linter.unusedVariables false
set_option linter.unusedSimpArgs false

/- made one: pairs of types as data; the stack -/
set_option maxRecDepth 4000
namespace Go.V
open Go Go.RowKit

section
variable {P:Program} {H:List Ent}
theorem q8j {w:World} {M:Nat->Nat->Prop} {G:List Gh} (i k:Nat) {q:Nat} {es:List AV} (hst:St w M G H) (he:ent H i = .mrow q es):St w M G (H.set i (.mrow q (es.take k))):=by
 have hH:=qu he (by simp)
 obtain ⟨g,hg⟩:=hst.lenH hH
 obtain ⟨h1,⟨r1,r2,vs,t,us,r3,r4,r5,r6,r7⟩,h9⟩:=hst.ok i g _ hg hH
 have hul:us.length = es.length:=qe r5
 have htk:(es.take k).length≤es.length:=by rw [List.length_take];omega
 have hs:=qe9 (w':=w) (M':=M) (g':=g) (e:=.mrow q (es.take k)) hst hg rfl (fun _ h=>h) (Nat.le_refl _) (fun _ _ _=>rfl) (Le.refl w M) (fun _ _ h=>.inl h) (by
  rw [qcy _ _ _ hg]
  refine ⟨h1,⟨by omega,r2,vs,t,us.take k,r3,r4,qdg r5 k,fun u hu=>r6 u (List.mem_of_mem_take hu),?_⟩,h9⟩
  have hfl:=qbd (us:=us.take k) fun u hu=>r6 u (List.mem_of_mem_take hu)
  have hsp:us.flatMap (·.cells.toList) = (us.take k).flatMap (·.cells.toList) ++ (us.drop k).flatMap (·.cells.toList):=by rw [← List.flatMap_append,List.take_append_drop]
  have hle:q * (es.take k).length≤q * es.length:=Nat.mul_le_mul_left q htk
  have e1:vs.take (q * (es.take k).length) = (vs.take (q * es.length)).take (q * (es.take k).length):=by rw [List.take_take,Nat.min_eq_left hle]
  have e2:((us.take k).flatMap (·.cells.toList)).length = q * (es.take k).length:=by rw [hfl,Nat.mul_comm,List.length_take,List.length_take,hul]
  rw [e1,r7,hsp,List.take_left' e2])
 rwa [qcy _ _ _ hg] at hs
theorem VCalls.cut {f:FuncId} {args:List AV} {Q Q':List Ent->VO->Prop} (i k q:Nat) (h:VCalls P f H args Q) (hq:∀ H' o,Q H' o->∃ es,ent H' i = .mrow q es∧Q' (H'.set i (.mrow q (es.take k))) o):VCalls P f H args Q' :=
 ⟨h.1,fun w M G vs hst hv=>CallsIn.mono (h.2 w M G vs hst hv) fun e w' he=>by
  cases e with
  | returned x =>
    obtain ⟨M',G',H',v,h1,h2,h3,h4⟩:=he
    obtain ⟨es,q1,q2⟩:=hq _ _ h1
    exact ⟨M',G',_,v,q2,h2,q8j i k h3 q1,h4⟩
  | panicked c =>
    obtain ⟨M',G',H',v,x,h1,h2,h3,h4,h5⟩:=he
    obtain ⟨es,q1,q2⟩:=hq _ _ h1
    exact ⟨M',G',_,v,x,q2,h2,q8j i k h3 q1,h4,h5⟩
  | outgrown=>exact he⟩
end
def encW (x:Ty×Ty):AV:=.agg [.str x.1.con,.int .i64 x.1.var,.sl 3 (qj x.1.args),.str x.2.con,.int .i64 x.2.var,.sl 3 (qj x.2.args)]
def qbf (l:List (Ty×Ty)):List AV:=l.map encW
def W0:Ty×Ty:=(Y0,Y0)
abbrev wdc (x:Ty×Ty):List AV:=[.str x.1.con,.int .i64 x.1.var,.sl 3 (qj x.1.args),.str x.2.con,.int .i64 x.2.var,.sl 3 (qj x.2.args)]
theorem qxy (x:Ty×Ty):AV.agg [.str x.1.con,.int .i64 x.1.var,.sl 3 (qj x.1.args),.str x.2.con,.int .i64 x.2.var,.sl 3 (qj x.2.args)] = encW x:=rfl
theorem qwb (x:Ty×Ty):(encW x).cells = wdc x:=rfl
theorem qfi (k:Nat) (x:Ty×Ty):(encW x).bd k = true:=by simp only [encW,AV.bd,AV.bds,qbn,Bool.and_true]
theorem qb9 (k:Nat) (l:List (Ty×Ty)):AV.bds k (qbf l) = true:=by rw [qbf,qcn,List.all_map,List.all_eq_true];exact fun x _=>qfi k x
theorem qi2 (σ:Nat->Nat) (x:Ty×Ty):(encW x).ren σ = encW x:=ren_same (m:=0) (fun i hi=>by omega) _ (qfi 0 x)
theorem qp5 (σ:Nat->Nat) (l:List (Ty×Ty)):AV.rens σ (qbf l) = qbf l:=ql (m:=0) (fun i hi=>by omega) _ (qb9 0 l)
theorem qbce (H:List Ent) (x:Ty×Ty):co H (.agg [.id,.id,.sl 3,.id,.id,.sl 3]) (encW x) = encW x:=by
 simp only [encW,qkn,qet,qge,qpr,qeg]
theorem qzz (x:Ty×Ty):rdCo (.agg [.id,.id,.sl 3,.id,.id,.sl 3]) (encW x) = []:=by
 simp only [encW,qeq,qct,qds,qgb,qcu,List.append_nil]
theorem q5l (x:Ty×Ty):(encW x).isAgg = true:=rfl
theorem qoh (x:Ty×Ty):(encW x).leaf = false:=rfl
theorem qd8 (l:List (Ty×Ty)):(qbf l).length = l.length:=by simp [qbf]
theorem qhn {l:List (Ty×Ty)} {i:Nat} (h:i < l.length):(qbf l).getD i .junk = encW (l.getD i W0):=by
 rw [qbf,List.getD_eq_getElem?_getD,List.getElem?_map,List.getElem?_eq_getElem h,List.getD_eq_getElem?_getD,List.getElem?_eq_getElem h];rfl
theorem qt1 {l:List (Ty×Ty)} {i:Nat} (h:i < l.length):l.getD i W0∈l:=by
 rw [List.getD_eq_getElem?_getD,List.getElem?_eq_getElem h];exact List.getElem_mem h
theorem qby8 {l:List (Ty×Ty)} {i:Nat} (h:i < l.length):l.drop i = l.getD i W0 :: l.drop (i + 1):=by
 rw [List.drop_eq_getElem_cons h,List.getD_eq_getElem?_getD,List.getElem?_eq_getElem h];rfl
theorem qfx (l:List (Ty×Ty)) (p:Ty×Ty):qbf l ++ [encW p] = qbf (l ++ [p]):=by simp [qbf]
theorem qlb (n:Nat) (l:List (Ty×Ty)):(qbf l).take n = qbf (l.take n):=by simp [qbf]
theorem qv6 (n:Nat) (l:List (Ty×Ty)):(qbf l).drop n = qbf (l.drop n):=by simp [qbf]
theorem q3h (b:Bool) (n off:Nat) (p:Ty×Ty):fldv b n off (encW p) = ldc b n off (wdc p):=rfl
attribute [go_sem] wdc q3h qzz qfi qb9 qi2 qp5 qbce q5l qwb qxy qoh qd8 qlb qv6
end Go.V
namespace Go.Proofs.YtkenggenkmfopaaGreat
open Go Go.RowKit Go.V

def stkH (b:Bool) (L:List (Ty×Ty)):List Ent:=if b = true then [.blk [.row 1 L.length],.mrow 6 (qbf L)] else [.blk [.nils]]
abbrev stkE (b:Bool) (L:List (Ty×Ty)):Ent:=bun (stkH b L)
theorem qtm (L:List (Ty×Ty)):stkH true L = [.blk [.row 1 L.length],.mrow 6 (qbf L)]:=rfl
theorem qzb (L:List (Ty×Ty)):stkH false L = [.blk [.nils]]:=rfl
theorem qqa {Q:List Ent->VO->Prop} {H':List Ent} {r:VO} (h0:ent H' 0 = .blk [.nils]) (hl:0 < H'.length) (hr:r.bd 1 = true) (h:Q [stkE false []] r):qci Q H' r :=
 ⟨[.blk [.nils]],[0],rfl,by simp,by simp,⟨⟨hl,rfl,by rw [h0];rfl⟩,trivial⟩,hr,h⟩
theorem qe6 {Q:List Ent->VO->Prop} {H':List Ent} {r:VO} {L:List (Ty×Ty)} (k:Nat) (h0:ent H' 0 = .blk [.row k L.length]) (h1:ent H' k = .mrow 6 (qbf L)) (hk:0 < k) (hl:k < H'.length) (hr:r.bd 1 = true) (h:Q [stkE true L] r):qci Q H' r :=
 ⟨[.blk [.row 1 L.length],.mrow 6 (qbf L)],[0,k],rfl,by simp,by simp;omega,⟨⟨by omega,rfl,by rw [h0];rfl⟩,⟨hl,qb9 _ _,by rw [h1];simp only [Ent.ren,qp5]⟩,trivial⟩,hr,h⟩
def psH:Bool->Nat->List (Ty×Ty)->List Ent
 | true,0,K=>[.blk [.row 1 K.length],.mrow 6 (qbf K)]
 | true,_ + 1,K=>[.blk [.row 2 K.length],.dead,.mrow 6 (qbf K)]
 | false,0,_=>[.blk [.nils]]
 | false,_ + 1,K=>[.blk [.row 1 K.length],.mrow 6 (qbf K)]
theorem qbuo (K:List (Ty×Ty)):psH false 0 K = [.blk [.nils]]:=rfl
theorem qsl (j:Nat) (K:List (Ty×Ty)):psH false (j + 1) K = [.blk [.row 1 K.length],.mrow 6 (qbf K)]:=rfl
theorem qbyt (K:List (Ty×Ty)):psH true 0 K = [.blk [.row 1 K.length],.mrow 6 (qbf K)]:=rfl
theorem qt3 (j:Nat) (K:List (Ty×Ty)):psH true (j + 1) K = [.blk [.row 2 K.length],.dead,.mrow 6 (qbf K)]:=rfl
def psSt (b:Bool) (L l:List (Ty×Ty)) (j:Nat):AF×List Ent:=(⟨[(0,.ptr 0 0),(1,.sl 6 (qbf l)),(4,.int .i64 ((l.length:Int) - 1 - j))],[]⟩,psH b j (L ++ (l.drop (l.length - j)).reverse))
theorem qp4 {l:List (Ty×Ty)} {j:Nat} (h:j < l.length) (L:List (Ty×Ty)):L ++ (l.drop (l.length - (j + 1))).reverse = (L ++ (l.drop (l.length - j)).reverse) ++ [l.getD (l.length - 1 - j) W0]:=by
 have h1:l.length - 1 - j < l.length:=by omega
 have h2:=qby8 h1
 rw [show l.length - 1 - j + 1 = l.length - j by omega] at h2
 rw [show l.length - (j + 1) = l.length - 1 - j by omega,h2,List.reverse_cons,List.append_assoc]
theorem qbt2 (b:Bool) (L:List (Ty×Ty)) (hb:b = false->L = []):VCalls Tryz.prog 159 (stkH b L) [.ptr 0 0,.sl 6 []] (qci fun H' o=>H' = [stkE b L]∧o = .val (.tup [])):=by
 cases b with
 | false =>
   rw [hb rfl,qzb]
   refine qc c0dr 1 (by simp) (by simp) ?_
   repeat' (first | refine vs_ ?_ | ((first | refine vr_ ?_ | (refine cs_ ?_ ?_<;>intro hc) | refine cj_ ?_ | simp (disch:=omega) only [encs_getN,qb])<;>(try refine ev_ ?_)) | with_reducible exact ti_)
   refine qp (S:=Unit) (fun _=>True) (fun _=>(⟨[(0,.ptr 0 0),(1,.sl 6 []),(4,.int .i64 (-1))],[]⟩,[.blk [.nils]])) (fun _=>0) ?_ fun _ _=>?_
   ·refine qm () [0] trivial rfl (by simp) ?_ ?_ ?_<;>(try refine ev_ ?_)<;>(try with_reducible exact ti_)<;>(try simp (disch:=omega) only [qb,and_true,true_and])
    all_goals rfl
   ·repeat' (first | refine vs_ ?_ | ((first | refine vr_ ?_ | (refine cs_ ?_ ?_<;>intro hc) | refine cj_ ?_ | simp (disch:=omega) only [encs_getN,qb])<;>(try refine ev_ ?_)) | with_reducible exact ti_)
    all_goals try (exfalso;revert hc;decide)
    exact qqa rfl (by simp) rfl ⟨rfl,rfl⟩
 | true =>
   rw [qtm]
   refine qc c0dr 2 (by simp) (by simp [Ent.bd,qb9]) ?_
   repeat' (first | refine vs_ ?_ | ((first | refine vr_ ?_ | (refine cs_ ?_ ?_<;>intro hc) | refine cj_ ?_ | simp (disch:=omega) only [encs_getN,qb])<;>(try refine ev_ ?_)) | with_reducible exact ti_)
   refine qp (S:=Unit) (fun _=>True) (fun _=>(⟨[(0,.ptr 0 0),(1,.sl 6 []),(4,.int .i64 (-1))],[]⟩,[.blk [.row 1 L.length],.mrow 6 (qbf L)])) (fun _=>0) ?_ fun _ _=>?_
   ·refine qm () [0,1] trivial rfl (by simp) ?_ ?_ ?_<;>(try refine ev_ ?_)<;>(try with_reducible exact ti_)<;>(try simp (disch:=omega) only [qb,and_true,true_and])
    all_goals rfl
   ·repeat' (first | refine vs_ ?_ | ((first | refine vr_ ?_ | (refine cs_ ?_ ?_<;>intro hc) | refine cj_ ?_ | simp (disch:=omega) only [encs_getN,qb])<;>(try refine ev_ ?_)) | with_reducible exact ti_)
    all_goals try (exfalso;revert hc;decide)
    exact qe6 1 rfl rfl (by simp) (by simp) rfl ⟨rfl,rfl⟩
set_option maxHeartbeats 1000000 in
theorem qbtn (l:List (Ty×Ty)) (hne:l≠[]) (hlen:l.length≤100000000) :
 VCalls Tryz.prog 159 (stkH false []) [.ptr 0 0,.sl 6 (qbf l)] (qci fun H' o=>H' = [stkE true l.reverse]∧o = .val (.tup [])):=by
 rw [qzb]
 refine qc c0dr 2 (by simp) (by simp) ?_
 repeat' (first | refine vs_ ?_ | ((first | refine vr_ ?_ | (refine cs_ ?_ ?_<;>intro hc) | refine cj_ ?_ | simp (disch:=omega) only [encs_getN,qb])<;>(try refine ev_ ?_)) | with_reducible exact ti_)
 refine qp (S:=Nat) (fun j=>j≤l.length) (psSt false [] l) (fun j=>l.length - j) ?_ fun j hj=>?_
 ·refine qm 0 [0] (Nat.zero_le _) rfl (by simp) ?_ ?_ ?_<;>simp only [psSt,psH]<;>(try refine ev_ ?_)<;>(try with_reducible exact ti_)<;>(try simp (disch:=omega) only [qb,and_true,true_and])
  rw [qbb (by omega) (by omega)];simp
 ·unfold psSt
  by_cases hlt:j < l.length
  ·have hg:=qhn (l:=l) (i:=l.length - 1 - j) (by omega)
   have hcons:=qp4 hlt []
   have hsub:((l.length:Int) - 1 - j).toNat = l.length - 1 - j:=by omega
   rw [List.nil_append] at hcons
   have hlk:(([]:List (Ty×Ty)) ++ (l.drop (l.length - j)).reverse).length = j:=by rw [List.nil_append,List.length_reverse,List.length_drop];omega
   cases j with
   | zero =>
     have hn:([]:List (Ty×Ty)) ++ (l.drop (l.length - 0)).reverse = []:=List.length_eq_zero_iff.1 hlk
     rw [hn,List.nil_append] at hcons
     have hsub:((l.length:Int) - 1 - 0).toNat = l.length - 1 - 0:=by omega
     have h0:(0:Int)≤(l.length:Int) - 1 - 0:=by omega
     rw [qbuo]
     have hcap:qdq 1 96 = True:=eq_true (by unfold qdq;omega)
     repeat' (first | refine vs_ ?_ | ((first | refine vr_ ?_ | fail)<;>(try simp (disch:=first | omega | (simp only [List.length_set,List.length_append,List.length_cons,List.length_nil];done) | (simp only [List.length_set,List.length_append,List.length_cons,List.length_nil];omega)) only [hg,hsub,qb,go_sem,↓reduceIte])) | ((first | simp (disch:=omega) only [hg] | simp (disch:=omega) only [hcap] | (refine cs_ ?_ ?_<;>intro hc) | refine cj_ ?_ | simp (disch:=omega) only [encs_getN,qb])<;>(try refine ev_ ?_)) | with_reducible exact ti_)
     all_goals try (exfalso;omega)
     refine qm 1 [0,1] ⟨by omega,by omega⟩ rfl (by simp) ?_ ?_ ?_<;>simp only [psSt,qsl,List.nil_append,hcons,List.length_singleton]<;>(try refine ev_ ?_)<;>(try with_reducible exact ti_)<;>(try simp (disch:=omega) only [qb,and_true,true_and])
     ·rfl
     ·rw [qbb (by omega) (by omega)];congr 1;omega
   | succ j =>
     rw [List.nil_append] at hlk ⊢
     generalize hK:(l.drop (l.length - (j + 1))).reverse = K at hcons hlk
     rw [qsl]
     have hcap:qdq (K.length + 1) 96 = True:=eq_true (by unfold qdq;omega)
     repeat' (first | refine vs_ ?_ | ((first | refine vr_ ?_ | fail)<;>(try simp (disch:=first | omega | (simp only [List.length_set,List.length_append,List.length_cons,List.length_nil];done) | (simp only [List.length_set,List.length_append,List.length_cons,List.length_nil];omega)) only [hg,hsub,qb,qd8,go_sem,↓reduceIte])) | ((first | simp (disch:=omega) only [hg] | simp (disch:=omega) only [hcap] | (refine cs_ ?_ ?_<;>intro hc) | refine cj_ ?_ | simp (disch:=omega) only [encs_getN,qb])<;>(try refine ev_ ?_)) | with_reducible exact ti_)
     all_goals try (exfalso;omega)
     refine qm (j + 1 + 1) [0,2] ⟨by omega,by omega⟩ rfl (by simp) ?_ ?_ ?_<;>simp only [psSt,qsl,List.nil_append,hcons,List.length_append,List.length_singleton]<;>(try refine ev_ ?_)<;>(try with_reducible exact ti_)<;>(try simp (disch:=omega) only [qb,and_true,true_and])
     ·rw [qfx]
     ·rw [qbb (by omega) (by omega)];congr 1;omega
  ·have hjl:j = l.length:=by omega
   subst hjl
   rw [Nat.sub_self,List.drop_zero,List.nil_append]
   cases hz:l.length with
   | zero=>exact absurd (List.length_eq_zero_iff.1 hz) hne
   | succ k =>
     rw [qsl]
     repeat' (first | refine vs_ ?_ | ((first | refine vr_ ?_ | (refine cs_ ?_ ?_<;>intro hc) | refine cj_ ?_ | simp (disch:=omega) only [encs_getN,qb])<;>(try refine ev_ ?_)) | with_reducible exact ti_)
     all_goals try (exfalso;omega)
     exact qe6 1 rfl rfl (by simp) (by simp) rfl ⟨rfl,rfl⟩
set_option maxHeartbeats 1000000 in
theorem qbrb (L l:List (Ty×Ty)) (hne:l≠[]) (hlen:L.length + l.length≤100000000) :
 VCalls Tryz.prog 159 (stkH true L) [.ptr 0 0,.sl 6 (qbf l)] (qci fun H' o=>H' = [stkE true (L ++ l.reverse)]∧o = .val (.tup [])):=by
 rw [qtm]
 refine qc c0dr 3 (by simp) (by simp [Ent.bd,qb9]) ?_
 repeat' (first | refine vs_ ?_ | ((first | refine vr_ ?_ | (refine cs_ ?_ ?_<;>intro hc) | refine cj_ ?_ | simp (disch:=omega) only [encs_getN,qb])<;>(try refine ev_ ?_)) | with_reducible exact ti_)
 refine qp (S:=Nat) (fun j=>j≤l.length) (psSt true L l) (fun j=>l.length - j) ?_ fun j hj=>?_
 ·refine qm 0 [0,1] (Nat.zero_le _) rfl (by simp) ?_ ?_ ?_<;>simp only [psSt,psH]<;>(try refine ev_ ?_)<;>(try with_reducible exact ti_)<;>(try simp (disch:=omega) only [qb,and_true,true_and])
  ·simp
  ·rw [qbb (by omega) (by omega)];simp
 ·unfold psSt
  by_cases hlt:j < l.length
  ·have hg:=qhn (l:=l) (i:=l.length - 1 - j) (by omega)
   have hcons:=qp4 hlt L
   have hsub:((l.length:Int) - 1 - j).toNat = l.length - 1 - j:=by omega
   have hlk:(L ++ (l.drop (l.length - j)).reverse).length = L.length + j:=by rw [List.length_append,List.length_reverse,List.length_drop];omega
   cases j with
   | zero =>
     have hn:L ++ (l.drop (l.length - 0)).reverse = L:=by simp
     rw [hn] at hcons ⊢
     have hsub:((l.length:Int) - 1 - 0).toNat = l.length - 1 - 0:=by omega
     have h0:(0:Int)≤(l.length:Int) - 1 - 0:=by omega
     rw [qbyt]
     have hcap:qdq (L.length + 1) 96 = True:=eq_true (by unfold qdq;omega)
     repeat' (first | refine vs_ ?_ | ((first | refine vr_ ?_ | fail)<;>(try simp (disch:=first | omega | (simp only [List.length_set,List.length_append,List.length_cons,List.length_nil];done) | (simp only [List.length_set,List.length_append,List.length_cons,List.length_nil];omega)) only [hg,hsub,qb,qd8,go_sem,↓reduceIte])) | ((first | simp (disch:=omega) only [hg] | simp (disch:=omega) only [hcap] | (refine cs_ ?_ ?_<;>intro hc) | refine cj_ ?_ | simp (disch:=omega) only [encs_getN,qb])<;>(try refine ev_ ?_)) | with_reducible exact ti_)
     all_goals try (exfalso;omega)
     refine qm 1 [0,1,2] ⟨by omega,by omega⟩ rfl (by simp) ?_ ?_ ?_<;>simp only [psSt,qt3,hcons,List.length_append,List.length_singleton]<;>(try refine ev_ ?_)<;>(try with_reducible exact ti_)<;>(try simp (disch:=omega) only [qb,and_true,true_and])
     ·rw [qfx]
     ·rw [qbb (by omega) (by omega)];congr 1;omega
   | succ j =>
     generalize hK:L ++ (l.drop (l.length - (j + 1))).reverse = K at hcons hlk
     rw [qt3]
     have hcap:qdq (K.length + 1) 96 = True:=eq_true (by unfold qdq;omega)
     repeat' (first | refine vs_ ?_ | ((first | refine vr_ ?_ | fail)<;>(try simp (disch:=first | omega | (simp only [List.length_set,List.length_append,List.length_cons,List.length_nil];done) | (simp only [List.length_set,List.length_append,List.length_cons,List.length_nil];omega)) only [hg,hsub,qb,qd8,go_sem,↓reduceIte])) | ((first | simp (disch:=omega) only [hg] | simp (disch:=omega) only [hcap] | (refine cs_ ?_ ?_<;>intro hc) | refine cj_ ?_ | simp (disch:=omega) only [encs_getN,qb])<;>(try refine ev_ ?_)) | with_reducible exact ti_)
     all_goals try (exfalso;omega)
     refine qm (j + 1 + 1) [0,1,3] ⟨by omega,by omega⟩ rfl (by simp) ?_ ?_ ?_<;>simp only [psSt,qt3,hcons,List.length_append,List.length_singleton]<;>(try refine ev_ ?_)<;>(try with_reducible exact ti_)<;>(try simp (disch:=omega) only [qb,and_true,true_and])
     ·rw [qfx]
     ·rw [qbb (by omega) (by omega)];congr 1;omega
  ·have hjl:j = l.length:=by omega
   subst hjl
   rw [Nat.sub_self,List.drop_zero]
   cases hz:l.length with
   | zero=>exact absurd (List.length_eq_zero_iff.1 hz) hne
   | succ k =>
     rw [qt3]
     repeat' (first | refine vs_ ?_ | ((first | refine vr_ ?_ | (refine cs_ ?_ ?_<;>intro hc) | refine cj_ ?_ | simp (disch:=omega) only [encs_getN,qb])<;>(try refine ev_ ?_)) | with_reducible exact ti_)
     all_goals try (exfalso;omega)
     exact qe6 2 (by rw [List.length_append];rfl) rfl (by simp) (by simp) rfl ⟨rfl,rfl⟩
theorem qs0 (b:Bool) (L l:List (Ty×Ty)) (hb:b = false->L = []) (hlen:L.length + l.length≤100000000) :
 VM Tryz.prog 159 (stkE b L) (stkE (b || decide (l≠[])) (L ++ l.reverse)) [.ptr 0 0,.sl 6 (qbf l)] (.tup []):=by
 refine qcd ?_ (by simp only [AV.bds,AV.bd,qb9,Bool.and_true];rfl)
 by_cases hl:l = []
 ·subst hl
  have h:=qbt2 b L hb
  rw [show decide (([]:List (Ty×Ty))≠[]) = false from rfl,Bool.or_false,List.reverse_nil,List.append_nil]
  exact h
 ·rw [decide_eq_true hl,Bool.or_true]
  cases b with
  | false =>
    have hL:=hb rfl
    subst hL
    exact qbtn l hl (by simpa using hlen)
  | true=>exact qbrb L l hl hlen
def popA (x:Ty×Ty) (b:Bool):AV:=.tup [encW x,.bool b]
theorem qrb (k:Nat) (x:Ty×Ty) (b:Bool):(popA x b).bd k = true:=by simp only [popA,AV.bd,AV.bds,qfi,Bool.and_true]
theorem q6x (b:Bool):VM Tryz.prog 160 (stkE b []) (stkE b []) [.ptr 0 0] (.tup [encW W0,.bool false]):=by
 refine qcd ?_ rfl
 cases b with
 | false =>
   rw [qzb]
   refine qc c0ds 1 (by simp) (by simp) ?_
   repeat' (first | refine vs_ ?_ | ((first | refine vr_ ?_ | (refine cs_ ?_ ?_<;>intro hc) | refine cj_ ?_ | simp (disch:=omega) only [encs_getN,qb])<;>(try refine ev_ ?_)) | with_reducible exact ti_)
   all_goals try (exfalso;revert hc;decide)
   exact qqa rfl (by simp) rfl ⟨rfl,rfl⟩
 | true =>
   rw [qtm]
   refine qc c0ds 2 (by simp) (by simp [Ent.bd,qb9]) ?_
   repeat' (first | refine vs_ ?_ | ((first | refine vr_ ?_ | (refine cs_ ?_ ?_<;>intro hc) | refine cj_ ?_ | simp (disch:=omega) only [encs_getN,qb])<;>(try refine ev_ ?_)) | with_reducible exact ti_)
   all_goals try (exfalso;revert hc;decide)
   exact qe6 (L:=[]) 1 rfl rfl (by simp) (by simp) rfl ⟨rfl,rfl⟩
theorem qbiq (L:List (Ty×Ty)) (x:Ty×Ty) (hlen:L.length≤100000000):VM Tryz.prog 160 (stkE true (L ++ [x])) (stkE true L) [.ptr 0 0] (.tup [encW x,.bool true]):=by
 refine qcd ?_ rfl
 rw [qtm]
 refine VCalls.cut 1 L.length 6 (Q:=fun H' o=>H' = [.blk [.row 1 L.length],.mrow 6 (qbf (L ++ [x]))]∧o = .val (popA x true)) ?_ fun H' o hq=>?_
 case refine_2 =>
  obtain ⟨rfl,rfl⟩:=hq
  refine ⟨_,rfl,?_⟩
  refine qe6 (L:=L) 1 rfl ?_ (by simp) (by simp) (qrb 1 x true) ⟨rfl,rfl⟩
  show Ent.mrow 6 ((qbf (L ++ [x])).take L.length) = _
  rw [qlb,List.take_left]
 refine qc c0ds 2 (by simp) (by simp [Ent.bd,qb9]) ?_
 have hx:(qbf (L ++ [x])).getD L.length .junk = encW x:=by
  rw [qhn (by simp),List.getD_eq_getElem?_getD,List.getElem?_append_right (Nat.le_refl _)];simp
 rw [List.length_append,List.length_singleton]
 have hsub:(((L.length + 1:Nat):Int) - 1).toNat = L.length:=by omega
 have hw1:IntKind.i64.wrap (((L.length + 1:Nat):Int) - 1) = L.length:=by rw [qbb (by omega) (by omega)];omega
 have hmx:L.length + 1≤maxLen:=by unfold maxLen;omega
 repeat' (first | refine vs_ ?_ | ((first | refine vr_ ?_ | fail)<;>(try simp only [hx,hw1,go_sem,↓reduceIte])) | ((first | simp (disch:=omega) only [hw1] | simp (disch:=omega) only [hx] | (refine cs_ ?_ ?_<;>intro hc) | refine cj_ ?_ | simp (disch:=omega) only [encs_getN,qb])<;>(try refine ev_ ?_)) | with_reducible exact ti_)
 ·exfalso;omega
 ·rfl
end Go.Proofs.YtkenggenkmfopaaGreat

/- matching: what it does -/
namespace Go.Proofs.YtkenggenkmfopaaGreat
open Go Go.RowKit Go.V

end Go.Proofs.YtkenggenkmfopaaGreat
