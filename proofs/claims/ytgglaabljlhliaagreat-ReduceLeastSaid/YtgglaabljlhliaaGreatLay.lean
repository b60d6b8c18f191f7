/- Texts of this proof, joined. -/
import Derived.Test.YtgglaabljlhliaaGreatLaw
import Derived.Test.YtgglaabljlhliaaGreatLax
import Derived.Test.YtgglaabljlhliaaGreatLaq
set_option linter.unusedVariables false
set_option linter.unusedSimpArgs false

/- terms: the program's texts -/
set_option maxRecDepth 4000
namespace Go.Proofs.YtgglaabljlhliaaGreat
open Go Go.RowKit Go.V

theorem qs7 {t:Ty}:qk Tryz.prog 101 [hdA t] (.str (qir t)):=by
 refine qd c0bd (by simp) (by simp only [go_sem]) rfl fun hw=>?_
 have hv:(Lit.int .i64 t.var).wf = true:=hw.1.2.1
 by_cases hc0:t.con = []
 ·by_cases h0:0≤t.var
  ·repeat' (first | refine vs_ ?_ | ((first | refine vr_ ?_ | fail)<;>(try simp only [hc0,h0,go_sem,↓reduceIte])) | ((first | (refine cs_ ?_ ?_<;>intro hc) | refine cj_ ?_ | simp (disch:=omega) only [encs_getN,qb] | refine qa (qjn _) fun _=>?_)<;>(try refine ev_ ?_)) | with_reducible exact ti_)
   rw [qir,if_pos hc0,if_pos h0]
  ·have hneg:=qbyb hv (by omega)
   have hd:=q8z (n:=-1 - t.var) (by have:=qkk hv;simp [Lit.wf,IntKind.min,IntKind.max,IntKind.signed,IntKind.bits];omega)
   have hm:1 + (digI (-1 - t.var)).length≤maxLen:=by unfold maxLen;omega
   repeat' (first | refine vs_ ?_ | ((first | refine vr_ ?_ | fail)<;>(try simp only [hc0,h0,hneg,go_sem,↓reduceIte])) | ((first | (refine cs_ ?_ ?_<;>intro hc) | refine cj_ ?_ | simp (disch:=omega) only [encs_getN,qb] | refine qa (qef _) fun _=>?_)<;>(try refine ev_ ?_)) | with_reducible exact ti_)
   rw [qir,if_pos hc0,if_neg h0]
 ·repeat' (first | refine vs_ ?_ | ((first | refine vr_ ?_ | fail)<;>(try simp only [hc0,go_sem,↓reduceIte])) | ((first | (refine cs_ ?_ ?_<;>intro hc) | refine cj_ ?_ | simp (disch:=omega) only [encs_getN,qb])<;>(try refine ev_ ?_)) | with_reducible exact ti_)
  rw [qir,if_neg hc0]
abbrev bldE (l:List UInt8):Ent:=.cus (bldR 129 5 l)
theorem q4n {l s:List UInt8} (h:l.length + s.length≤Big):VM Tryz.prog 75 (bldE l) (bldE (l ++ s)) [.ptr 0 0,.str s] (.tup [.int .i64 s.length,.nili]) :=
 qbkg (ρ:=Go.Proofs.Tryz.lays156_ren) Go.Proofs.Tryz.bld166 Go.Proofs.Tryz.Builder_Extra_156 h
theorem qbde {l:List UInt8} (h0:l≠[]) (h:l.length≤Big):VM Tryz.prog 76 (bldE l) .dead [.ptr 0 0] (.str l) :=
 qbbr (ρ:=Go.Proofs.Tryz.lays156_ren) Go.Proofs.Tryz.bld169 Go.Proofs.Tryz.Builder_Extra_156 h0 h
theorem qf7 {a:Ty} {b:Bool} (h:qk Tryz.prog 69 [encY a] (.str (txtY a))) (hl:(txtY a).length + 2≤Big):qk Tryz.prog 100 [encY a,.bool b] (.str (parW b (txtY a))):=by
 refine qd c0be (by simp) (by simp only [go_sem]) rfl fun hw=>?_
 have h1:1 + (txtY a).length≤maxLen:=qkp (by omega)
 have h2:(txtY a).length + 1 + 1≤maxLen:=qkp (by omega)
 cases b
 ·repeat' (first | refine vs_ ?_ | ((first | refine vr_ ?_ | refine qa h fun _=>?_ | (refine cs_ ?_ ?_<;>intro hc) | refine cj_ ?_ | simp (disch:=omega) only [encs_getN,qb])<;>(try refine ev_ ?_)) | with_reducible exact ti_)
  rfl
 ·repeat' (first | refine vs_ ?_ | ((first | refine vr_ ?_ | refine qa h fun _=>?_ | (refine cs_ ?_ ?_<;>intro hc) | refine cj_ ?_ | simp (disch:=omega) only [encs_getN,qb])<;>(try refine ev_ ?_)) | with_reducible exact ti_)
  rfl
theorem qwx {t:Ty} (hv:(Lit.int .i64 t.var).wf = true):qir t≠[]:=by
 rw [qir]
 split
 ·split
  ·rw [ltrI,if_neg (by omega)];split<;>simp
  ·simp
 ·assumption
theorem qy7:∀ t,qcg t = true->(txtY t).length≤Big->qk Tryz.prog 69 [encY t] (.str (txtY t)):=by
 refine Ty.ind fun t ih hs hl=>?_
 refine qd c0bf (by simp) (by simp only [go_sem]) rfl fun hw=>?_
 obtain ⟨hk,_,hv,_⟩:=(q3m t).1 hw.1
 by_cases hca:t.con = arrW
 ·obtain ⟨a,b,hab,sa,sb⟩:=q3h hs hca
  have e:=q7d hca hab
  have hlen:=congrArg List.length e
  simp only [List.length_append,List.length_cons,List.length_nil] at hlen
  have hp:=qxm (decide (a.con = arrW)) (txtY a)
  have iha:=ih a (by rw [hab];simp) sa (by omega)
  have ihb:=ih b (by rw [hab];simp) sb (by omega)
  have ihc:=qf7 (b:=decide (a.con = [45,62])) iha (by omega)
  have e0:(qx t.args).getD 0 .junk = encY a:=by rw [hab];rfl
  have e1:(qx t.args).getD 1 .junk = encY b:=by rw [hab];rfl
  have e2:t.args.length = 2:=by rw [hab];rfl
  have hca':t.con = [45,62]:=hca
  have m3:(parW (decide (a.con = [45,62])) (txtY a)).length + 4≤maxLen:=qkp (by have:decide (a.con = arrW) = decide (a.con = [45,62]):=rfl;rw [this] at hlen;omega)
  have m4:(parW (decide (a.con = [45,62])) (txtY a)).length + 4 + (txtY b).length≤maxLen:=qkp (by have:decide (a.con = arrW) = decide (a.con = [45,62]):=rfl;rw [this] at hlen;omega)
  repeat' (first | refine vs_ ?_ | ((first | refine vr_ ?_ | fail)<;>(try simp only [hca',e0,e1,e2,go_sem,↓reduceIte])) | ((first | simp (disch:=omega) only [e1] | (refine cs_ ?_ ?_<;>intro hc) | refine cj_ ?_ | simp (disch:=omega) only [encs_getN,qb] | refine qa ihc fun _=>?_ | refine qa ihb fun _=>?_ | refine qc ihc ?_ | refine qc ihb ?_)<;>(try refine ev_ ?_)) | with_reducible exact ti_)
  rw [e];rfl
 ·have e:=q6p hca
  have hca':¬ t.con = [45,62]:=hca
  have hlen:=congrArg List.length e
  rw [List.length_append] at hlen
  have hnp:0 < (qir t).length:=List.length_pos_iff.2 (qwx hv)
  have ihA:∀ i,i < t.args.length->qk Tryz.prog 100 [encY (t.args.getD i Y0),.bool (decide ((t.args.getD i Y0).args≠[]))] (.str (parW (decide ((t.args.getD i Y0).args≠[])) (txtY (t.args.getD i Y0)))):=fun i hi=>by
   have hm:=qb2 hi
   have h1:=qk6 t.args i hi
   have h2:=congrArg List.length h1
   simp only [List.length_append,List.length_cons] at h2
   have h3:=qhh t.args (i + 1)
   have h4:=qxm (decide ((t.args.getD i Y0).args≠[])) (txtY (t.args.getD i Y0))
   exact qf7 (ih _ hm (q6b hs hm) (by omega)) (by omega)
  have htk:∀ i,i < t.args.length->(qir t ++ argY (t.args.take i)).length + (32 :: parW (decide ((t.args.getD i Y0).args≠[])) (txtY (t.args.getD i Y0))).length≤Big:=fun i hi=>by
   have h1:=qk6 t.args i hi
   have h2:=congrArg List.length h1
   simp only [List.length_append,List.length_cons] at h2 ⊢
   have h3:=qhh t.args (i + 1)
   omega
  have w0:([]:List UInt8).length + (qir t).length≤Big:=by simp;omega
  repeat' (first | refine vs_ ?_ | ((first | refine vr_ ?_ | fail)<;>(try simp only [hca',go_sem,↓reduceIte])) | ((first | (refine cs_ ?_ ?_<;>intro hc) | refine cj_ ?_ | simp (disch:=omega) only [encs_getN,qb] | refine qa (qif _) fun _=>?_ | refine qa (qs7 (t:=t)) fun _=>?_ | refine qcc 1 (q4n w0) ?_ | refine qc (qif _) ?_ | refine qc (qs7 (t:=t)) ?_)<;>(try refine ev_ ?_)) | with_reducible exact ti_)
  refine qj (S:=Nat) (fun i=>i≤t.args.length) (fun i=>(⟨[(3,.ptr 1 0),(32,.sl 3 (qx t.args)),(33,.int .i64 t.args.length),(34,.int .i64 i)],[]⟩,[.blk (yc t),bldE (qir t ++ argY (t.args.take i))])) (fun i=>t.args.length - i) ?_ fun i hi=>?_
  ·refine qf 0 [0,1] (Nat.zero_le _) rfl (by simp) ?_ ?_ ?_<;>simp only [List.take_zero,argY,List.append_nil]<;>(try refine ev_ ?_)<;>(try with_reducible exact ti_)<;>(try simp (disch:=omega) only [qb,and_true,true_and])
  ·by_cases hlt:i < t.args.length
   ·have hb:=htk i hlt
    have hle:decide (0 < ((t.args.getD i Y0).args.length:Int)) = decide ((t.args.getD i Y0).args≠[]):=by
     refine decide_eq_decide.2 ⟨fun h hn=>by rw [hn] at h;simp at h,fun h=>?_⟩
     have:=List.length_pos_iff.2 h
     omega
    have m1:1 + (parW (decide ((t.args.getD i Y0).args≠[])) (txtY (t.args.getD i Y0))).length≤maxLen:=qkp (by simp only [List.length_append,List.length_cons] at hb;omega)
    repeat' (first | refine vs_ ?_ | ((first | refine vr_ ?_ | fail)<;>(try simp (disch:=first | omega | (simp only [List.length_set,List.length_append,List.length_cons,List.length_nil];done) | (simp only [List.length_set,List.length_append,List.length_cons,List.length_nil];omega)) only [qb6,qb,hle,go_sem,↓reduceIte])) | ((first | (refine cs_ ?_ ?_<;>intro hc) | refine cj_ ?_ | simp (disch:=omega) only [encs_getN,qb] | refine qa (ihA i hlt) fun _=>?_ | refine qcc 1 (q4n hb) ?_ | refine qc (ihA i hlt) ?_)<;>(try refine ev_ ?_)) | with_reducible exact ti_)
    ·refine qf (i + 1) [0,1] ⟨by omega,by omega⟩ rfl (by simp) ?_ ?_ ?_<;>simp only [qk6 _ _ hlt]<;>(try refine ev_ ?_)<;>(try with_reducible exact ti_)<;>(try simp (disch:=omega) only [qb,and_true,true_and])
    ·omega
   ·have hend:qir t ++ argY (t.args.take i) = txtY t:=by rw [e,List.take_of_length_le (by omega)]
    have hne:txtY t≠[]:=by rw [e];exact fun h=>qwx hv (List.append_eq_nil_iff.1 h).1
    rw [hend]
    repeat' (first | refine vs_ ?_ | ((first | refine vr_ ?_ | refine qcc 1 (qbde hne hl) ?_ | (refine cs_ ?_ ?_<;>intro hc) | refine cj_ ?_ | simp (disch:=omega) only [encs_getN,qb])<;>(try refine ev_ ?_)) | with_reducible exact ti_)
    ·omega
def qjx (t:Ty):List UInt8:=if qba t = true then txtY t else []
theorem qlk {t:Ty} (h:qba t = true):qcg t = true:=by
 rw [qba,Bool.and_eq_true,Bool.and_eq_true] at h;exact h.2.2
theorem qnl {t:Ty} (h1:szY t≤20000) (h2:dpY t≤300) (hl:(qjx t).length≤Big):qk Tryz.prog 41 [encY t] (.str (qjx t)):=by
 refine qd c0bg (by simp) (by simp only [go_sem]) rfl fun hw=>?_
 have hL:=qdl h1 h2
 cases h:qba t with
 | false =>
   have e:qjx t = []:=by rw [qjx,if_neg (by rw [h];simp)]
   rw [e]
   rw [h] at hL
   repeat' (first | refine vs_ ?_ | ((first | refine vr_ ?_ | refine qa hL fun _=>?_ | (refine cs_ ?_ ?_<;>intro hc) | refine cj_ ?_ | fail)<;>(try refine ev_ ?_)) | with_reducible exact ti_)
 | true =>
   have e:qjx t = txtY t:=by rw [qjx,if_pos h]
   rw [e] at hl ⊢
   rw [h] at hL
   repeat' (first | refine vs_ ?_ | ((first | refine vr_ ?_ | refine qa hL fun _=>?_ | refine qa (qy7 t (qlk h) hl) fun _=>?_ | (refine cs_ ?_ ?_<;>intro hc) | refine cj_ ?_ | fail)<;>(try refine ev_ ?_)) | with_reducible exact ti_)

theorem qb5 (t:Ty):qba t = true ↔ szY t≤4096∧dpY t≤100∧qcg t = true:=by
 rw [qba,Bool.and_eq_true,Bool.and_eq_true,decide_eq_true_eq,decide_eq_true_eq]
theorem q44 {t:Ty} (h:qcg t = true) (hc:t.con = []):t.args = []:=by
 rw [qie,Bool.and_eq_true] at h
 have h2:=h.2
 rw [mayY,mayW,if_pos hc,decide_eq_true_eq] at h2
 exact List.length_eq_zero_iff.1 (by omega)
mutual
theorem qeu:∀ t,qcg t = true->bare t
 | .mk c v l, h => by
   rw [bare]
   refine ⟨fun hc=>q44 h hc,qjk l ?_⟩
   rw [qcg,Bool.and_eq_true] at h
   exact h.1
theorem qjk:∀ l,qcd l = true->qmp l
 | [],_=>by rw [qmp];trivial
 | x :: r, h => by
   rw [qcd,Bool.and_eq_true] at h
   rw [qmp]
   exact ⟨qeu x h.1,qjk r h.2⟩
end
def okS (s:List Pr):Prop:=risR s∧∀ p∈s,qba p.ty = true
theorem qn5:okS []:=⟨trivial,fun p hp=>by simp at hp⟩
theorem qbwv {s:List Pr} (h:okS s):okR s:=fun p hp=>by
 have:=(qb5 _).1 (h.2 p hp)
 exact ⟨this.1,this.2.1⟩
theorem q8t {s:List Pr} (h:okS s) {v:Int} {u:Ty} (hu:qbm v s = some u):qba u = true:=by
 obtain ⟨p,h1,_,rfl⟩:=qln hu
 exact h.2 p h1
mutual
theorem qq4 {s:List Pr} (h:okS s):∀ t,qcg t = true->qcg (putY s t) = true
 | .mk c v l, ht => by
   rw [putY]
   split
   ·cases hl:qbm v s with
    | some u=>exact ((qb5 u).1 (q8t h hl)).2.2
    | none=>exact ht
   ·rw [qcg,Bool.and_eq_true] at ht ⊢
    exact ⟨qno h l ht.1,by rw [q53];exact ht.2⟩
theorem qno {s:List Pr} (h:okS s):∀ l,qcd l = true->qcd (qfy s l) = true
 | [],_=>by rw [qfy,qcd]
 | x :: r, hl => by
   rw [qcd,Bool.and_eq_true] at hl
   rw [qfy,qcd,Bool.and_eq_true]
   exact ⟨qq4 h x hl.1,qno h r hl.2⟩
end
def setR (l:List Pr) (v:Int) (t:Ty):List Pr×Int:=if qba t = true then (match qbm v l with | some _=>(l,6) | none=>(insR v t l,0)) else (l,1)
theorem qtd {s:List Pr} (h:okS s) (v:Int) (t:Ty):okS (setR s v t).1:=by
 rw [setR]
 split
 ·rename_i ht
  cases hl:qbm v s with
  | some u=>exact h
  | none =>
    refine ⟨qvv h.1 hl,fun p hp=>?_⟩
    rcases insR_mem.1 hp with rfl | hp
    ·exact ht
    ·exact h.2 p hp
 ·exact h
theorem qwo (s:List Pr) (v:Int) (t:Ty):(setR s v t).1.length≤s.length + 1:=by
 rw [setR]
 split
 ·cases qbm v s with
  | some u=>simp
  | none=>simp only [qxp];omega
 ·simp
def addR (s:List Pr):List Pr->List Pr
 | []=>s
 | p :: r=>addR (setR s p.v p.ty).1 r
theorem qth:∀ (l:List Pr) {s:List Pr},okS s->okS (addR s l)
 | [],s,h=>h
 | p :: r,s,h=>qth r (qtd h p.v p.ty)
theorem qw8:∀ (l s:List Pr),(addR s l).length≤s.length + l.length
 | [],s=>by simp [addR]
 | p :: r, s => by
   have h1:=qw8 r (setR s p.v p.ty).1
   have h2:=qwo s p.v p.ty
   rw [addR,List.length_cons];omega
def newR (l:List Pr):List Pr:=addR [] l
theorem qpc (l:List Pr):okS (newR l):=qth l qn5
theorem qbaq (l:List Pr):(newR l).length≤l.length:=by have:=qw8 l [];rw [newR];simpa using this
def appR (s:List Pr) (t:Ty):Ty×Int:=if qba t = true then (if 4096 < sizR s t then (Y0,2) else if qba (putY s t) = true then (putY s t,0) else (Y0,2)) else (Y0,1)
theorem qtn {s:List Pr} (h:okS s) (t:Ty):appR s t = if qba t = true then (if qba (putY s t) = true then (putY s t,0) else (Y0,2)) else (Y0,1):=by
 rw [appR]
 split
 ·rename_i ht
  have hs:=qlk ht
  have hz:=qtw s t (qeu t hs)
  split
  ·rename_i hb
   rw [if_neg]
   intro hl
   have:=((qb5 _).1 hl).1
   omega
  ·rfl
 ·rfl
def appP (s:List Pr) (t:Ty):Ty×Int:=if qba t = true then (if (bput s t 4096 1).1 < 0 then (Y0,2) else ((bput s t 4096 1).2,0)) else (Y0,1)
theorem qbod {s:List Pr} (h:okS s) (t:Ty):appP s t = appR s t:=by
 rw [appP,qtn h]
 split
 ·rename_i ht
  obtain ⟨h1,h2,h3⟩:=(qb5 t).1 ht
  have hz:=qtw s t (qeu t h3)
  have hp:=qq4 h t h3
  have key:=qxc s t 4096 1 (qeu t h3) (by omega) (by omega)
  by_cases hk:(sizR s t:Int)≤4096∧1 + dpY (putY s t)≤101
  ·have hk':(sizR s t:Int)≤4096∧(1:Int) + dpY (putY s t)≤101:=by omega
   rw [key.1 hk',if_neg (by simp only;omega),if_pos ((qb5 _).2 ⟨by omega,by omega,hp⟩)]
  ·rw [if_pos (key.2 (by omega)),if_neg]
   intro hl
   have:=(qb5 _).1 hl
   omega
 ·rfl
theorem qyz {s:List Pr} (h:okS s) {t:Ty} (he:(appR s t).2 = 0):qba t = true∧qba (putY s t) = true∧(appR s t).1 = putY s t:=by
 rw [qtn h] at he ⊢
 split at he
 ·rename_i h1
  split at he
  ·rename_i h2
   rw [if_pos h1,if_pos h2]
   exact ⟨h1,h2,rfl⟩
  ·exact absurd he (by simp)
 ·exact absurd he (by simp)
def qqf (t:List Pr):List Pr->List Pr->List Pr×Int
 | acc,[]=>(acc,0)
 | acc,p :: r=>if (appR t p.ty).2 = 0 then qqf t (acc ++ [⟨p.v,(appR t p.ty).1⟩]) r else ([],(appR t p.ty).2)
def behR (s t:List Pr):List Pr×Int:=if (qqf t [] s).2 = 0 then (addR (qqf t [] s).1 t,0) else ([],(qqf t [] s).2)
theorem qsz {t:List Pr} (ht:okS t):∀ (s acc:List Pr),(qqf t acc s).2 = 0->(qqf t acc s).1 = acc ++ s.map (fun p=>⟨p.v,putY t p.ty⟩)∧∀ p∈s,qba (putY t p.ty) = true
 | [],acc,_=>⟨by simp [qqf],fun p hp=>by simp at hp⟩
 | p :: r, acc, he => by
   rw [qqf] at he ⊢
   split at he
   ·rename_i h0
    obtain ⟨h1,h2,h3⟩:=qyz ht h0
    obtain ⟨q1,q2⟩:=qsz ht r _ he
    rw [if_pos h0]
    refine ⟨by rw [q1,h3];simp,fun q hq=>?_⟩
    rcases List.mem_cons.1 hq with rfl | hq
    ·exact h2
    ·exact q2 q hq
   ·rename_i h0
    exact absurd he h0
theorem q2d {t:List Pr}:∀ {s:List Pr},risR s->risR (s.map fun p=>(⟨p.v,putY t p.ty⟩:Pr))
 | [],_=>trivial
 | p :: r, h => ⟨fun q hq => by
     obtain ⟨x,hx,rfl⟩:=List.mem_map.1 hq
     exact h.1 x hx,q2d h.2⟩
theorem qsa {s:List Pr} {v x:Int} {t:Ty} (ht:qba t = true):qbm x (setR s v t).1 = match qbm x s with | some u=>some u | none=>if x = v then some t else none:=by
 rw [setR,if_pos ht]
 cases hl:qbm v s with
 | some u =>
   simp only
   cases hx:qbm x s with
   | some w=>rfl
   | none =>
     simp only
     rw [if_neg]
     rintro rfl
     rw [hl] at hx
     cases hx
 | none =>
   simp only
   rw [qs3 hl]
   split
   ·rename_i h;subst h;rw [hl]
   ·cases qbm x s<;>rfl
theorem qbfw {s t:List Pr} (hs:okS s) (ht:okS t):okS (behR s t).1:=by
 rw [behR]
 split
 ·rename_i he
  obtain ⟨q1,q2⟩:=qsz ht s [] he
  refine qth t ?_
  rw [q1,List.nil_append]
  refine ⟨q2d hs.1,fun p hp=>?_⟩
  obtain ⟨x,hx,rfl⟩:=List.mem_map.1 hp
  exact q2 x hx
 ·exact qn5
end Go.Proofs.YtgglaabljlhliaaGreat
