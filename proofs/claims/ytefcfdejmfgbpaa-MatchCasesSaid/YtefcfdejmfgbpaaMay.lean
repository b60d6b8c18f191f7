/- Texts of this proof, joined. -/
import Derived.Test.YtefcfdejmfgbpaaMaw
import Derived.Test.YtefcfdejmfgbpaaMax
import Derived.Test.YtefcfdejmfgbpaaMar
import Derived.Test.YtefcfdejmfgbpaaMam
set_option linter.unusedVariables false
set_option linter.unusedSimpArgs false

/- terms: the program's texts -/
set_option maxRecDepth 4000
namespace Go.Proofs.Ytefcfdejmfgbpaa
open Go Go.RowKit Go.V

theorem qmk {t:Ty}:qo Try.prog 61 [hdA t] (.str (qf2 t)):=by
 refine qj c0t (by simp) (by simp only [go_sem]) rfl fun hw=>?_
 have hv:(Lit.int .i64 t.var).wf = true:=hw.1.2.1
 by_cases hc0:t.con = []
 ·by_cases h0:0≤t.var
  ·repeat' (first | refine vs_ ?_ | ((first | refine vr_ ?_ | fail)<;>(try simp only [hc0,h0,go_sem,↓reduceIte])) | ((first | (refine cs_ ?_ ?_<;>intro hc) | refine cj_ ?_ | simp (disch:=omega) only [encs_getN,qc] | refine qa (qgf _) fun _=>?_)<;>(try refine ev_ ?_)) | with_reducible exact ti_)
   rw [qf2,if_pos hc0,if_pos h0]
  ·have hneg:=qbdn hv (by omega)
   have hd:=qx6 (n:=-1 - t.var) (by have:=qmi hv;simp [Lit.wf,IntKind.min,IntKind.max,IntKind.signed,IntKind.bits];omega)
   have hm:1 + (digI (-1 - t.var)).length≤maxLen:=by unfold maxLen;omega
   repeat' (first | refine vs_ ?_ | ((first | refine vr_ ?_ | fail)<;>(try simp only [hc0,h0,hneg,go_sem,↓reduceIte])) | ((first | (refine cs_ ?_ ?_<;>intro hc) | refine cj_ ?_ | simp (disch:=omega) only [encs_getN,qc] | refine qa (qey _) fun _=>?_)<;>(try refine ev_ ?_)) | with_reducible exact ti_)
   rw [qf2,if_pos hc0,if_neg h0]
 ·repeat' (first | refine vs_ ?_ | ((first | refine vr_ ?_ | fail)<;>(try simp only [hc0,go_sem,↓reduceIte])) | ((first | (refine cs_ ?_ ?_<;>intro hc) | refine cj_ ?_ | simp (disch:=omega) only [encs_getN,qc])<;>(try refine ev_ ?_)) | with_reducible exact ti_)
  rw [qf2,if_neg hc0]
abbrev bldE (l:List UInt8):Ent:=.cus (bldR 89 5 l)
theorem qvj {l s:List UInt8} (h:l.length + s.length≤Big):VM Try.prog 60 (bldE l) (bldE (l ++ s)) [.ptr 0 0,.str s] (.tup [.int .i64 s.length,.nili]) :=
 q2d (ρ:=Go.Proofs.Try.lays156_ren) Go.Proofs.Try.bld166 Go.Proofs.Try.Builder_Extra_156 h
theorem qxu {l:List UInt8} (h0:l≠[]) (h:l.length≤Big):VM Try.prog 62 (bldE l) .dead [.ptr 0 0] (.str l) :=
 qyb (ρ:=Go.Proofs.Try.lays156_ren) Go.Proofs.Try.bld169 Go.Proofs.Try.Builder_Extra_156 h0 h
theorem qeb {a:Ty} {b:Bool} (h:qo Try.prog 50 [encY a] (.str (txtY a))) (hl:(txtY a).length + 2≤Big):qo Try.prog 59 [encY a,.bool b] (.str (parW b (txtY a))):=by
 refine qj c0u (by simp) (by simp only [go_sem]) rfl fun hw=>?_
 have h1:1 + (txtY a).length≤maxLen:=qhc (by omega)
 have h2:(txtY a).length + 1 + 1≤maxLen:=qhc (by omega)
 cases b
 ·repeat' (first | refine vs_ ?_ | ((first | refine vr_ ?_ | refine qa h fun _=>?_ | (refine cs_ ?_ ?_<;>intro hc) | refine cj_ ?_ | simp (disch:=omega) only [encs_getN,qc])<;>(try refine ev_ ?_)) | with_reducible exact ti_)
  rfl
 ·repeat' (first | refine vs_ ?_ | ((first | refine vr_ ?_ | refine qa h fun _=>?_ | (refine cs_ ?_ ?_<;>intro hc) | refine cj_ ?_ | simp (disch:=omega) only [encs_getN,qc])<;>(try refine ev_ ?_)) | with_reducible exact ti_)
  rfl
theorem qp4 {t:Ty} (hv:(Lit.int .i64 t.var).wf = true):qf2 t≠[]:=by
 rw [qf2]
 split
 ·split
  ·rw [ltrI,if_neg (by omega)];split<;>simp
  ·simp
 ·assumption
theorem qqf:∀ t,qbf t = true->(txtY t).length≤Big->qo Try.prog 50 [encY t] (.str (txtY t)):=by
 refine Ty.ind fun t ih hs hl=>?_
 refine qj c0v (by simp) (by simp only [go_sem]) rfl fun hw=>?_
 obtain ⟨hk,_,hv,_⟩:=(qr5 t).1 hw.1
 by_cases hca:t.con = arrW
 ·obtain ⟨a,b,hab,sa,sb⟩:=qtj hs hca
  have e:=qw3 hca hab
  have hlen:=congrArg List.length e
  simp only [List.length_append,List.length_cons,List.length_nil] at hlen
  have hp:=qph (decide (a.con = arrW)) (txtY a)
  have iha:=ih a (by rw [hab];simp) sa (by omega)
  have ihb:=ih b (by rw [hab];simp) sb (by omega)
  have ihc:=qeb (b:=decide (a.con = [45,62])) iha (by omega)
  have e0:(qn t.args).getD 0 .junk = encY a:=by rw [hab];rfl
  have e1:(qn t.args).getD 1 .junk = encY b:=by rw [hab];rfl
  have e2:t.args.length = 2:=by rw [hab];rfl
  have hca':t.con = [45,62]:=hca
  have m3:(parW (decide (a.con = [45,62])) (txtY a)).length + 4≤maxLen:=qhc (by have:decide (a.con = arrW) = decide (a.con = [45,62]):=rfl;rw [this] at hlen;omega)
  have m4:(parW (decide (a.con = [45,62])) (txtY a)).length + 4 + (txtY b).length≤maxLen:=qhc (by have:decide (a.con = arrW) = decide (a.con = [45,62]):=rfl;rw [this] at hlen;omega)
  repeat' (first | refine vs_ ?_ | ((first | refine vr_ ?_ | fail)<;>(try simp only [hca',e0,e1,e2,go_sem,↓reduceIte])) | ((first | simp (disch:=omega) only [e1] | (refine cs_ ?_ ?_<;>intro hc) | refine cj_ ?_ | simp (disch:=omega) only [encs_getN,qc] | refine qa ihc fun _=>?_ | refine qa ihb fun _=>?_ | refine qd ihc ?_ | refine qd ihb ?_)<;>(try refine ev_ ?_)) | with_reducible exact ti_)
  rw [e];rfl
 ·have e:=qy7 hca
  have hca':¬ t.con = [45,62]:=hca
  have hlen:=congrArg List.length e
  rw [List.length_append] at hlen
  have hnp:0 < (qf2 t).length:=List.length_pos_iff.2 (qp4 hv)
  have ihA:∀ i,i < t.args.length->qo Try.prog 59 [encY (t.args.getD i Y0),.bool (decide ((t.args.getD i Y0).args≠[]))] (.str (parW (decide ((t.args.getD i Y0).args≠[])) (txtY (t.args.getD i Y0)))):=fun i hi=>by
   have hm:=qb5 hi
   have h1:=qhf t.args i hi
   have h2:=congrArg List.length h1
   simp only [List.length_append,List.length_cons] at h2
   have h3:=qe7 t.args (i + 1)
   have h4:=qph (decide ((t.args.getD i Y0).args≠[])) (txtY (t.args.getD i Y0))
   exact qeb (ih _ hm (qsg hs hm) (by omega)) (by omega)
  have htk:∀ i,i < t.args.length->(qf2 t ++ argY (t.args.take i)).length + (32 :: parW (decide ((t.args.getD i Y0).args≠[])) (txtY (t.args.getD i Y0))).length≤Big:=fun i hi=>by
   have h1:=qhf t.args i hi
   have h2:=congrArg List.length h1
   simp only [List.length_append,List.length_cons] at h2 ⊢
   have h3:=qe7 t.args (i + 1)
   omega
  have w0:([]:List UInt8).length + (qf2 t).length≤Big:=by simp;omega
  repeat' (first | refine vs_ ?_ | ((first | refine vr_ ?_ | fail)<;>(try simp only [hca',go_sem,↓reduceIte])) | ((first | (refine cs_ ?_ ?_<;>intro hc) | refine cj_ ?_ | simp (disch:=omega) only [encs_getN,qc] | refine qa (qfm _) fun _=>?_ | refine qa (qmk (t:=t)) fun _=>?_ | refine qbj 1 (qvj w0) ?_ | refine qd (qfm _) ?_ | refine qd (qmk (t:=t)) ?_)<;>(try refine ev_ ?_)) | with_reducible exact ti_)
  refine qbi (S:=Nat) (fun i=>i≤t.args.length) (fun i=>(⟨[(3,.ptr 1 0),(32,.sl 3 (qn t.args)),(33,.int .i64 t.args.length),(34,.int .i64 i)],[]⟩,[.blk (yc t),bldE (qf2 t ++ argY (t.args.take i))])) (fun i=>t.args.length - i) ?_ fun i hi=>?_
  ·refine qu 0 [0,1] (Nat.zero_le _) rfl (by simp) ?_ ?_ ?_<;>simp only [List.take_zero,argY,List.append_nil]<;>(try refine ev_ ?_)<;>(try with_reducible exact ti_)<;>(try simp (disch:=omega) only [qc,and_true,true_and])
  ·by_cases hlt:i < t.args.length
   ·have hb:=htk i hlt
    have hle:decide (0 < ((t.args.getD i Y0).args.length:Int)) = decide ((t.args.getD i Y0).args≠[]):=by
     refine decide_eq_decide.2 ⟨fun h hn=>by rw [hn] at h;simp at h,fun h=>?_⟩
     have:=List.length_pos_iff.2 h
     omega
    have m1:1 + (parW (decide ((t.args.getD i Y0).args≠[])) (txtY (t.args.getD i Y0))).length≤maxLen:=qhc (by simp only [List.length_append,List.length_cons] at hb;omega)
    repeat' (first | refine vs_ ?_ | ((first | refine vr_ ?_ | fail)<;>(try simp (disch:=first | omega | (simp only [List.length_set,List.length_append,List.length_cons,List.length_nil];done) | (simp only [List.length_set,List.length_append,List.length_cons,List.length_nil];omega)) only [qbp,qc,hle,go_sem,↓reduceIte])) | ((first | (refine cs_ ?_ ?_<;>intro hc) | refine cj_ ?_ | simp (disch:=omega) only [encs_getN,qc] | refine qa (ihA i hlt) fun _=>?_ | refine qbj 1 (qvj hb) ?_ | refine qd (ihA i hlt) ?_)<;>(try refine ev_ ?_)) | with_reducible exact ti_)
    ·refine qu (i + 1) [0,1] ⟨by omega,by omega⟩ rfl (by simp) ?_ ?_ ?_<;>simp only [qhf _ _ hlt]<;>(try refine ev_ ?_)<;>(try with_reducible exact ti_)<;>(try simp (disch:=omega) only [qc,and_true,true_and])
    ·omega
   ·have hend:qf2 t ++ argY (t.args.take i) = txtY t:=by rw [e,List.take_of_length_le (by omega)]
    have hne:txtY t≠[]:=by rw [e];exact fun h=>qp4 hv (List.append_eq_nil_iff.1 h).1
    rw [hend]
    repeat' (first | refine vs_ ?_ | ((first | refine vr_ ?_ | refine qbj 1 (qxu hne hl) ?_ | (refine cs_ ?_ ?_<;>intro hc) | refine cj_ ?_ | simp (disch:=omega) only [encs_getN,qc])<;>(try refine ev_ ?_)) | with_reducible exact ti_)
    ·omega
def qh7 (t:Ty):List UInt8:=if qi t = true then txtY t else []
theorem qib {t:Ty} (h:qi t = true):qbf t = true:=by
 rw [qi,Bool.and_eq_true,Bool.and_eq_true] at h;exact h.2.2
theorem qjz {t:Ty} (h1:szY t≤20000) (h2:dpY t≤300) (hl:(qh7 t).length≤Big):qo Try.prog 33 [encY t] (.str (qh7 t)):=by
 refine qj c0w (by simp) (by simp only [go_sem]) rfl fun hw=>?_
 have hL:=qcc h1 h2
 cases h:qi t with
 | false =>
   have e:qh7 t = []:=by rw [qh7,if_neg (by rw [h];simp)]
   rw [e]
   rw [h] at hL
   repeat' (first | refine vs_ ?_ | ((first | refine vr_ ?_ | refine qa hL fun _=>?_ | (refine cs_ ?_ ?_<;>intro hc) | refine cj_ ?_ | fail)<;>(try refine ev_ ?_)) | with_reducible exact ti_)
 | true =>
   have e:qh7 t = txtY t:=by rw [qh7,if_pos h]
   rw [e] at hl ⊢
   rw [h] at hL
   repeat' (first | refine vs_ ?_ | ((first | refine vr_ ?_ | refine qa hL fun _=>?_ | refine qa (qqf t (qib h) hl) fun _=>?_ | (refine cs_ ?_ ?_<;>intro hc) | refine cj_ ?_ | fail)<;>(try refine ev_ ?_)) | with_reducible exact ti_)

theorem qz (t:Ty):qi t = true ↔ szY t≤4096∧dpY t≤100∧qbf t = true:=by
 rw [qi,Bool.and_eq_true,Bool.and_eq_true,decide_eq_true_eq,decide_eq_true_eq]
theorem qsp {t:Ty} (h:qbf t = true) (hc:t.con = []):t.args = []:=by
 rw [qdy,Bool.and_eq_true] at h
 have h2:=h.2
 rw [mayY,mayW,if_pos hc,decide_eq_true_eq] at h2
 exact List.length_eq_zero_iff.1 (by omega)
mutual
theorem qcp:∀ t,qbf t = true->bare t
 | .mk c v l, h => by
   rw [bare]
   refine ⟨fun hc=>qsp h hc,qgn l ?_⟩
   rw [qbf,Bool.and_eq_true] at h
   exact h.1
theorem qgn:∀ l,qba l = true->qeg l
 | [],_=>by rw [qeg];trivial
 | x :: r, h => by
   rw [qba,Bool.and_eq_true] at h
   rw [qeg]
   exact ⟨qcp x h.1,qgn r h.2⟩
end
def okS (s:List Pr):Prop:=risR s∧∀ p∈s,qi p.ty = true
theorem qf5:okS []:=⟨trivial,fun p hp=>by simp at hp⟩
theorem q7i {s:List Pr} (h:okS s):okR s:=fun p hp=>by
 have:=(qz _).1 (h.2 p hp)
 exact ⟨this.1,this.2.1⟩
theorem qyu {s:List Pr} (h:okS s) {v:Int} {u:Ty} (hu:qp v s = some u):qi u = true:=by
 obtain ⟨p,h1,_,rfl⟩:=qhe hu
 exact h.2 p h1
mutual
theorem qlh {s:List Pr} (h:okS s):∀ t,qbf t = true->qbf (putY s t) = true
 | .mk c v l, ht => by
   rw [putY]
   split
   ·cases hl:qp v s with
    | some u=>exact ((qz u).1 (qyu h hl)).2.2
    | none=>exact ht
   ·rw [qbf,Bool.and_eq_true] at ht ⊢
    exact ⟨qi7 h l ht.1,by rw [qvf];exact ht.2⟩
theorem qi7 {s:List Pr} (h:okS s):∀ l,qba l = true->qba (qda s l) = true
 | [],_=>by rw [qda,qba]
 | x :: r, hl => by
   rw [qba,Bool.and_eq_true] at hl
   rw [qda,qba,Bool.and_eq_true]
   exact ⟨qlh h x hl.1,qi7 h r hl.2⟩
end
def setR (l:List Pr) (v:Int) (t:Ty):List Pr×Int:=if qi t = true then (match qp v l with | some _=>(l,6) | none=>(insR v t l,0)) else (l,1)
theorem qn1 {s:List Pr} (h:okS s) (v:Int) (t:Ty):okS (setR s v t).1:=by
 rw [setR]
 split
 ·rename_i ht
  cases hl:qp v s with
  | some u=>exact h
  | none =>
    refine ⟨qpk h.1 hl,fun p hp=>?_⟩
    rcases insR_mem.1 hp with rfl | hp
    ·exact ht
    ·exact h.2 p hp
 ·exact h
theorem qpz (s:List Pr) (v:Int) (t:Ty):(setR s v t).1.length≤s.length + 1:=by
 rw [setR]
 split
 ·cases qp v s with
  | some u=>simp
  | none=>simp only [qpe];omega
 ·simp
def addR (s:List Pr):List Pr->List Pr
 | []=>s
 | p :: r=>addR (setR s p.v p.ty).1 r
theorem qoq:∀ (l:List Pr) {s:List Pr},okS s->okS (addR s l)
 | [],s,h=>h
 | p :: r,s,h=>qoq r (qn1 h p.v p.ty)
theorem qpp:∀ (l s:List Pr),(addR s l).length≤s.length + l.length
 | [],s=>by simp [addR]
 | p :: r, s => by
   have h1:=qpp r (setR s p.v p.ty).1
   have h2:=qpz s p.v p.ty
   rw [addR,List.length_cons];omega
def newR (l:List Pr):List Pr:=addR [] l
theorem qks (l:List Pr):okS (newR l):=qoq l qf5
theorem qp6 (l:List Pr):(newR l).length≤l.length:=by have:=qpp l [];rw [newR];simpa using this
def appR (s:List Pr) (t:Ty):Ty×Int:=if qi t = true then (if 4096 < sizR s t then (Y0,2) else if qi (putY s t) = true then (putY s t,0) else (Y0,2)) else (Y0,1)
theorem qtw {s:List Pr} (h:okS s) (t:Ty):appR s t = if qi t = true then (if qi (putY s t) = true then (putY s t,0) else (Y0,2)) else (Y0,1):=by
 rw [appR]
 split
 ·rename_i ht
  have hs:=qib ht
  have hz:=qnt s t (qcp t hs)
  split
  ·rename_i hb
   rw [if_neg]
   intro hl
   have:=((qz _).1 hl).1
   omega
  ·rfl
 ·rfl
def appP (s:List Pr) (t:Ty):Ty×Int:=if qi t = true then (if (bput s t 4096 1).1 < 0 then (Y0,2) else ((bput s t 4096 1).2,0)) else (Y0,1)
theorem q6w {s:List Pr} (h:okS s) (t:Ty):appP s t = appR s t:=by
 rw [appP,qtw h]
 split
 ·rename_i ht
  obtain ⟨h1,h2,h3⟩:=(qz t).1 ht
  have hz:=qnt s t (qcp t h3)
  have hp:=qlh h t h3
  have key:=qpc s t 4096 1 (qcp t h3) (by omega) (by omega)
  by_cases hk:(sizR s t:Int)≤4096∧1 + dpY (putY s t)≤101
  ·have hk':(sizR s t:Int)≤4096∧(1:Int) + dpY (putY s t)≤101:=by omega
   rw [key.1 hk',if_neg (by simp only;omega),if_pos ((qz _).2 ⟨by omega,by omega,hp⟩)]
  ·rw [if_pos (key.2 (by omega)),if_neg]
   intro hl
   have:=(qz _).1 hl
   omega
 ·rfl
theorem qfz {s:List Pr} (h:okS s) {t:Ty} (he:(appR s t).2 = 0):qi t = true∧qi (putY s t) = true∧(appR s t).1 = putY s t:=by
 rw [qtw h] at he ⊢
 split at he
 ·rename_i h1
  split at he
  ·rename_i h2
   rw [if_pos h1,if_pos h2]
   exact ⟨h1,h2,rfl⟩
  ·exact absurd he (by simp)
 ·exact absurd he (by simp)
def qmb (t:List Pr):List Pr->List Pr->List Pr×Int
 | acc,[]=>(acc,0)
 | acc,p :: r=>if (appR t p.ty).2 = 0 then qmb t (acc ++ [⟨p.v,(appR t p.ty).1⟩]) r else ([],(appR t p.ty).2)
def behR (s t:List Pr):List Pr×Int:=if (qmb t [] s).2 = 0 then (addR (qmb t [] s).1 t,0) else ([],(qmb t [] s).2)
theorem ql4 {t:List Pr} (ht:okS t):∀ (s acc:List Pr),(qmb t acc s).2 = 0->(qmb t acc s).1 = acc ++ s.map (fun p=>⟨p.v,putY t p.ty⟩)∧∀ p∈s,qi (putY t p.ty) = true
 | [],acc,_=>⟨by simp [qmb],fun p hp=>by simp at hp⟩
 | p :: r, acc, he => by
   rw [qmb] at he ⊢
   split at he
   ·rename_i h0
    obtain ⟨h1,h2,h3⟩:=qfz ht h0
    obtain ⟨q1,q2⟩:=ql4 ht r _ he
    rw [if_pos h0]
    refine ⟨by rw [q1,h3];simp,fun q hq=>?_⟩
    rcases List.mem_cons.1 hq with rfl | hq
    ·exact h2
    ·exact q2 q hq
   ·rename_i h0
    exact absurd he h0
theorem qts {t:List Pr}:∀ {s:List Pr},risR s->risR (s.map fun p=>(⟨p.v,putY t p.ty⟩:Pr))
 | [],_=>trivial
 | p :: r, h => ⟨fun q hq => by
     obtain ⟨x,hx,rfl⟩:=List.mem_map.1 hq
     exact h.1 x hx,qts h.2⟩
theorem q41 {s t:List Pr} (hs:okS s) (ht:okS t):okS (behR s t).1:=by
 rw [behR]
 split
 ·rename_i he
  obtain ⟨q1,q2⟩:=ql4 ht s [] he
  refine qoq t ?_
  rw [q1,List.nil_append]
  refine ⟨qts hs.1,fun p hp=>?_⟩
  obtain ⟨x,hx,rfl⟩:=List.mem_map.1 hp
  exact q2 x hx
 ·exact qf5



/-! the reference's -/


def typA (p:Ty×Int):AV:=.tup [encY p.1,.int .i64 p.2]
theorem q0y (k:Nat) (p:Ty×Int):(typA p).bd k = true:=by simp only [typA,AV.bd,AV.bds,qbd,Bool.and_true]
end Go.Proofs.Ytefcfdejmfgbpaa
