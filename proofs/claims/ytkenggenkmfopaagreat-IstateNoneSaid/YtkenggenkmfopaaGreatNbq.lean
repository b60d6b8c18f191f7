/- Texts of this proof, joined. -/
import Derived.Test.YtkenggenkmfopaaGreatNbo
import Derived.Test.YtkenggenkmfopaaGreatNbp
import Derived.Test.YtkenggenkmfopaaGreatNbj
import Derived.Test.YtkenggenkmfopaaGreatNbk
set_option linter.unusedVariables false
set_option linter.unusedSimpArgs false

/- the reader of terms: copies of rows, what is taken, atoms -/
namespace Go.Proofs.YtkenggenkmfopaaGreat
open Go Go.RowKit Go.V

/-! a copy of a row -/
/-! the reader -/

theorem qhb:∀ {H:List Ent} {i:Nat},H.length≤i->ent H i = .dead
 | [],_,_=>rfl
 | _ :: _,0,h=>absurd h (by simp)
 | _ :: H,i + 1,h=>qhb (H:=H) (i:=i) (by simpa using h)
section
variable {P:Program} {f:FuncId} {e e':Ent} {aa args caps rs:List AV} {r:AV} {H:List Ent} {Kk:Md->AV->List Ent->Prop}
theorem qbzx (i:Nat) (h:VM P f e e' aa r) (hq:Kk (.meth i e e') r (H.set i e')) (hn:e≠.dead:=by intro h;cases h) (hb:e.bd 0 = true:=by rfl) (hb':e'.bd 0 = true:=by rfl) (he:ent H i = e:=by rfl) (hr:r.bd 0 = true:=by first | rfl | simp [go_sem])
 (e1:args ++ caps = AV.rens (sg [i]) aa:=by first | rfl | (simp only [go_sem];rfl) | (simp [go_sem,sg,AV.rens,AV.ren];done)) (ha:AV.bds 1 aa = true:=by first | rfl | (simp only [go_sem];done) | simp [go_sem,AV.bds,AV.bd]):DApp P H (.fn f [] caps) args rs Kk :=
 .inr (.inr (.inl ⟨r,i,e,e',⟨hn,he,fun H₀ h0=>qbl i h ⟨rfl,rfl⟩ hb hb' (by
  rcases Nat.lt_or_ge i H₀.length with h1 | h1
  ·exact h1
  ·exact absurd (h0.symm.trans (qhb h1)) hn) h0 hr e1 ha⟩,hq⟩))
end
set_option maxRecDepth 4000

theorem qbme {L:List Ent} {Q:List Ent->VO->Prop} (hq:Q (L ++ [subE []]) (.val (.ptr L.length 0))):VApp Tryz.prog L (.fn 39 [] []) [.sl 4 []] Q:=qxb (l:=[]) (s:=[]) (fun p hp=>by simp at hp) (by simp) rfl hq
def S0:SS:=⟨0,0,0,0,[],[],[],[],0,0⟩
theorem qbyy:VCalls Tryz.prog 11 [] [] fun H' o=>H' = [stE S0]∧o = .val (.ptr 0 0):=by
 refine qc c0t 1 (by simp) (by simp) ?_
 unfold k0t
 generalize hz:IC.ret = z1
 repeat' (first | refine vs_ ?_ | ((first | refine vr_ ?_ | refine qbme ?_ | refine qbb8 ?_ | (refine cs_ ?_ ?_<;>intro hc) | refine cj_ ?_ | fail)<;>(try refine ev_ ?_)) | with_reducible exact ti_)
 subst hz
 refine q0m 3 5 (.sl 6) rfl ?_
 simp only [List.getD_cons_succ,List.getD_cons_zero,List.set_cons_succ,List.set_cons_zero,qh3]
 refine qtc 3 [0,1,2] (H1:=stH S0) (by simp) (by simp) ⟨⟨by simp,by rfl,by rfl⟩,⟨by simp,by rfl,by rfl⟩,⟨by simp,by rfl,by rfl⟩,⟨by simp,by rfl,by rfl⟩,trivial⟩ ?_
 refine qu8 (af':=⟨[(0,.ptr 0 0)],[]⟩) (H':=[stE S0]) ?_ (qub [3] rfl (by simp) ?_ ?_ ?_)
 ·repeat' (first | refine vs_ ?_ | ((first | refine vr_ ?_ | (refine cs_ ?_ ?_<;>intro hc) | refine cj_ ?_ | fail)<;>(try refine ev_ ?_)) | with_reducible exact ti_)
 ·exact ⟨⟨by simp [qpl],rfl,rfl⟩,trivial⟩
 all_goals (try (refine ev_ ?_;(try with_reducible exact ti_)))
theorem qix {f:FuncId} {e e':Ent} {rest rs:List AV} {r:AV} {L:List Ent} {Kk:Md->AV->List Ent->Prop} (i:Nat) (h:VM Tryz.prog f e e' (.ptr 0 0 :: rest) r) (hrest:AV.bds 0 rest = true) (hr:r.bd 0 = true) (hq:Kk (.meth i e e') r (L.set i e')) (hn:e≠.dead:=by intro h;cases h) (hb:e.bd 0 = true:=by rfl) (hb':e'.bd 0 = true:=by rfl) (he:ent L i = e:=by rfl) :
 DApp Tryz.prog L (.fn f [] []) (.ptr i 0 :: rest) rs Kk:=by
 refine qbzx i h hq hn hb hb' he hr ?_ ?_
 ·rw [List.append_nil,AV.rens,ql (m:=0) (fun j hj=>by omega) rest hrest];rfl
 ·rw [AV.bds,Bool.and_eq_true]
  exact ⟨rfl,qcj (Nat.zero_le _) _ hrest⟩
theorem q5z (q:Ty×Int):(AV.tup [encY q.1,.int .i64 q.2]).bd 0 = true:=by simp only [AV.bd,AV.bds,qw,Bool.and_true]
/-! what waits -/
def wApp (s:List Pr) (w:Wt):Wt:=if (appR s w.p.ty).2 = 0 then ⟨⟨w.p.cls,(appR s w.p.ty).1⟩,w.pos,w.hole⟩ else w
def smlW (l:List Wt):Prop:=∀ w∈l,szY w.p.ty≤20000∧dpY w.p.ty≤300
def wtsS (S:SS) (n:Int):List Wt:=(S.waits.drop (cutN S n).toNat).map (wApp S.known)
theorem qt1 {l:List Wt} {i:Nat} (h:i < l.length):l.getD i Wt0∈l:=by
 rw [List.getD_eq_getElem?_getD,List.getElem?_eq_getElem h];exact List.getElem_mem h
theorem qu9 {l:List Wt} {i:Nat} (h:i < l.length):l.take (i + 1) = l.take i ++ [l.getD i Wt0]:=by
 rw [List.take_add_one,List.getD_eq_getElem?_getD,List.getElem?_eq_getElem h];rfl
def accM (n:Nat):List AV->List Ent
 | []=>[]
 | a :: r=>[.mrow n (a :: r)]
theorem qm1 (n:Nat):accM n [] = []:=rfl
theorem qq1 {n:Nat} {es:List AV} (h:es≠[]):accM n es = [.mrow n es]:=by cases es with | nil=>exact absurd rfl h | cons _ _=>rfl
theorem qsw (n:Nat) (a:AV):accM n [a] = [.mrow n [a]]:=rfl
theorem qo9 (n:Nat) (es:List AV) (a:AV):accM n (es ++ [a]) = [.mrow n (es ++ [a])]:=qq1 (by simp)
theorem qqy (l:List Wt):∀ v∈qx l,v.flat:=fun v hv=>by
 obtain ⟨t,_,rfl⟩:=List.mem_map.1 hv
 exact .inl ⟨rfl,rfl⟩
def wtSt (S:SS) (l:List Wt) (i:Nat):AF×List Ent:=(⟨[(0,.ptr 0 0),(5,accV 4 (qx ((l.take i).map (wApp S.known)))),(24,.sl 6 (qx l)),(25,.int .i64 l.length),(26,.int .i64 i)],[]⟩,stH S ++ accM 6 (qx ((l.take i).map (wApp S.known))))
theorem q45 {S:SS} {n:Int} (hl:S.waits.length≤1000000) (ho:okS S.known) (hk:S.known.length≤100000) (hw:smlW S.waits):VM Tryz.prog 27 (stE S) (stE S) [.ptr 0 0,.int .i64 n] (.sl 6 (qx (wtsS S n))):=by
 refine qcd ?_ (by simp [AV.bds,AV.bd])
 refine qc c0k 4 (by simp) (by simp) ?_
 unfold wtsS
 have hcn:(if (S.waits.length:Int) < (if 0 > n then 0 else n) then (S.waits.length:Int) else (if 0 > n then 0 else n)) = cutN S n:=rfl
 have hc0:0≤cutN S n:=by unfold cutN;split<;>(try split)<;>omega
 have hc1:cutN S n≤S.waits.length:=by unfold cutN;split<;>(try split)<;>omega
 generalize cutN S n = c at *
 obtain ⟨l,hll⟩:∃ l,S.waits.drop c.toNat = l:=⟨_,rfl⟩
 have hdr:(qx S.waits).drop c.toNat = qx l:=by rw [qju,hll]
 have hlen:l.length≤1000000:=by rw [← hll,List.length_drop];omega
 have hlw:smlW l:=fun w h=>hw w (by rw [← hll] at h;exact List.mem_of_mem_drop h)
 rw [hll]
 repeat' (first | refine vs_ ?_ | ((first | refine vr_ ?_ | fail)<;>(try simp only [hcn,hc0,hc1,hll,go_sem,↓reduceIte])) | ((first | (refine cs_ ?_ ?_<;>intro hc) | refine cj_ ?_ | simp (disch:=omega) only [encs_getN,qb])<;>(try refine ev_ ?_)) | with_reducible exact ti_)
 refine qp (S:=Nat) (fun i=>i≤l.length) (wtSt S l) (fun i=>l.length - i) ?_ fun i hi=>?_
 ·refine qm 0 [0,1,2,3] (Nat.zero_le _) rfl (by simp) ?_ ?_ ?_<;>simp only [wtSt,List.take_zero,List.map_nil,qv2,qer,qm1,List.append_nil]<;>(try refine ev_ ?_)<;>(try with_reducible exact ti_)<;>(try simp (disch:=omega) only [qb,and_true,true_and])
 ·unfold wtSt
  have htl:(qx ((l.take i).map (wApp S.known))).length = i:=by rw [qfw,List.length_map,List.length_take];omega
  by_cases hlt:i < l.length
  ·have hg:=quk hlt
   have hsn:=qu9 hlt
   have hx:=hlw _ (qt1 hlt)
   have e1:qx ((l.take i).map (wApp S.known)) ++ [qdp (wApp S.known (l.getD i Wt0))] = qx ((l.take (i + 1)).map (wApp S.known)):=by rw [hsn,qjz];simp only [List.map_append,List.map_cons,List.map_nil]
   have hif:(i:Int) < (l.length:Int):=by omega
   generalize l.getD i Wt0 = x at *
   obtain ⟨⟨cl,ty⟩,ps,ho'⟩:=x
   have hA:=qir ho hk hx.1 hx.2
   have hxf:AV.agg [.str ty.con,.int .i64 ty.var,.sl 3 (qj ty.args)] = encY ty:=qbh _
   have hwA:wApp S.known ⟨⟨cl,ty⟩,ps,ho'⟩ = if (appR S.known ty).2 = 0 then ⟨⟨cl,(appR S.known ty).1⟩,ps,ho'⟩ else ⟨⟨cl,ty⟩,ps,ho'⟩:=rfl
   rw [hwA] at e1
   clear hwA
   dsimp only at hA hg
   generalize appR S.known ty = q at *
   obtain ⟨u,e⟩:=q
   unfold typA at hA
   dsimp only at hA e1
   have hbt:=q5z (u,e)
   have hbe:AV.bds 0 [encY ty] = true:=by simp only [AV.bds,qw,Bool.and_true]
   have c1:qdq (i + 1) 80 = True:=eq_true (by unfold qdq;omega)
   by_cases h0:i = 0
   ·subst h0
    have n1:qx ((l.take 0).map (wApp S.known)) = []:=rfl
    rw [n1] at e1
    rw [n1]
    have hif0:(0:Int) < (l.length:Int):=by omega
    simp only [qer,qm1,List.append_nil]
    by_cases he:e = 0
    ·rw [if_pos he] at e1
     subst he
     have hwf:AV.agg [.str cl,.str u.con,.int .i64 u.var,.sl 3 (qj u.args),.int .i64 ps,.int .i64 ho'] = qdp ⟨⟨cl,u⟩,ps,ho'⟩:=rfl
     repeat' (first | refine vs_ ?_ | ((first | refine vr_ ?_ | fail)<;>(try simp (disch:=first | omega | (simp only [List.length_set,List.length_append,List.length_cons,List.length_nil];done) | (simp only [List.length_set,List.length_append,List.length_cons,List.length_nil];omega)) only [hg,hif0,hxf,hwf,qb,c1,go_sem,↓reduceIte])) | ((first | simp (disch:=omega) only [hg] | (refine cs_ ?_ ?_<;>intro hc) | refine cj_ ?_ | simp (disch:=omega) only [encs_getN,qb] | refine qix 1 hA hbe hbt ?_)<;>(try refine ev_ ?_)) | with_reducible exact ti_)
     refine qm 1 [0,1,2,3,6] ⟨by omega,by omega⟩ rfl (by simp) ?_ ?_ ?_<;>simp only [wtSt,← e1,List.nil_append,qiz,qsw]<;>(try refine ev_ ?_)<;>(try with_reducible exact ti_)<;>(try simp (disch:=omega) only [qb,and_true,true_and])
     all_goals rfl
    ·rw [if_neg he] at e1
     have hwf:AV.agg [.str cl,.str ty.con,.int .i64 ty.var,.sl 3 (qj ty.args),.int .i64 ps,.int .i64 ho'] = qdp ⟨⟨cl,ty⟩,ps,ho'⟩:=rfl
     repeat' (first | refine vs_ ?_ | ((first | refine vr_ ?_ | fail)<;>(try simp (disch:=first | omega | (simp only [List.length_set,List.length_append,List.length_cons,List.length_nil];done) | (simp only [List.length_set,List.length_append,List.length_cons,List.length_nil];omega)) only [hg,hif0,hxf,hwf,he,qb,c1,go_sem,↓reduceIte])) | ((first | simp (disch:=omega) only [hg] | (refine cs_ ?_ ?_<;>intro hc) | refine cj_ ?_ | simp (disch:=omega) only [encs_getN,qb] | refine qix 1 hA hbe hbt ?_)<;>(try refine ev_ ?_)) | with_reducible exact ti_)
     refine qm 1 [0,1,2,3,6] ⟨by omega,by omega⟩ rfl (by simp) ?_ ?_ ?_<;>simp only [wtSt,← e1,List.nil_append,qiz,qsw]<;>(try refine ev_ ?_)<;>(try with_reducible exact ti_)<;>(try simp (disch:=omega) only [qb,and_true,true_and])
     all_goals rfl
   ·have n1:qx ((l.take i).map (wApp S.known))≠[]:=fun h=>h0 (by rw [← htl,h];rfl)
    simp only [qgi n1,qq1 n1,htl]
    by_cases he:e = 0
    ·rw [if_pos he] at e1
     subst he
     have hwf:AV.agg [.str cl,.str u.con,.int .i64 u.var,.sl 3 (qj u.args),.int .i64 ps,.int .i64 ho'] = qdp ⟨⟨cl,u⟩,ps,ho'⟩:=rfl
     repeat' (first | refine vs_ ?_ | ((first | refine vr_ ?_ | fail)<;>(try simp (disch:=first | omega | (simp only [List.length_set,List.length_append,List.length_cons,List.length_nil];done) | (simp only [List.length_set,List.length_append,List.length_cons,List.length_nil];omega)) only [hg,hif,hxf,hwf,htl,qb,c1,go_sem,↓reduceIte])) | ((first | simp (disch:=omega) only [hg] | (refine cs_ ?_ ?_<;>intro hc) | refine cj_ ?_ | simp (disch:=omega) only [encs_getN,qb] | refine qix 1 hA hbe hbt ?_)<;>(try refine ev_ ?_)) | with_reducible exact ti_)
     refine qm (i + 1) [0,1,2,3,7] ⟨by omega,by omega⟩ rfl (by simp) ?_ ?_ ?_<;>simp only [wtSt,← e1,qgm,qo9,htl]<;>(try refine ev_ ?_)<;>(try with_reducible exact ti_)<;>(try simp (disch:=omega) only [qb,and_true,true_and])
     ·rw [e1];exact ⟨qb7 _ _,by rw [qcb]⟩
     ·rw [qbb (by omega) (by omega),Int.natCast_add];rfl
    ·rw [if_neg he] at e1
     have hwf:AV.agg [.str cl,.str ty.con,.int .i64 ty.var,.sl 3 (qj ty.args),.int .i64 ps,.int .i64 ho'] = qdp ⟨⟨cl,ty⟩,ps,ho'⟩:=rfl
     repeat' (first | refine vs_ ?_ | ((first | refine vr_ ?_ | fail)<;>(try simp (disch:=first | omega | (simp only [List.length_set,List.length_append,List.length_cons,List.length_nil];done) | (simp only [List.length_set,List.length_append,List.length_cons,List.length_nil];omega)) only [hg,hif,hxf,hwf,he,htl,qb,c1,go_sem,↓reduceIte])) | ((first | simp (disch:=omega) only [hg] | (refine cs_ ?_ ?_<;>intro hc) | refine cj_ ?_ | simp (disch:=omega) only [encs_getN,qb] | refine qix 1 hA hbe hbt ?_)<;>(try refine ev_ ?_)) | with_reducible exact ti_)
     refine qm (i + 1) [0,1,2,3,7] ⟨by omega,by omega⟩ rfl (by simp) ?_ ?_ ?_<;>simp only [wtSt,← e1,qgm,qo9,htl]<;>(try refine ev_ ?_)<;>(try with_reducible exact ti_)<;>(try simp (disch:=omega) only [qb,and_true,true_and])
     ·rw [e1];exact ⟨qb7 _ _,by rw [qcb]⟩
     ·rw [qbb (by omega) (by omega),Int.natCast_add];rfl
  ·have hie:i = l.length:=by omega
   subst hie
   rw [List.take_length] at htl ⊢
   have hbd:(AV.sl 6 (qx (l.map (wApp S.known)))).bd 0 = true:=by simp only [AV.bd,qb7]
   by_cases h0:l = []
   ·have n1:qx (l.map (wApp S.known)) = []:=by rw [h0];rfl
    rw [n1] at hbd ⊢
    simp only [qer,qm1,List.append_nil]
    repeat' (first | refine vs_ ?_ | ((first | refine vr_ ?_ | (refine cs_ ?_ ?_<;>intro hc) | refine cj_ ?_ | simp (disch:=omega) only [encs_getN,qb])<;>(try refine ev_ ?_)) | with_reducible exact ti_)
    all_goals try (exfalso;omega)
    exact qt (S:=S) (L:=[]) rfl hbd ⟨rfl,rfl⟩
   ·have n1:qx (l.map (wApp S.known))≠[]:=fun h=>h0 (List.length_eq_zero_iff.1 (by rw [← htl,h];rfl))
    simp only [qgi n1,qq1 n1,htl]
    refine qch 4 rfl (qqy _) ?_
    repeat' (first | refine vs_ ?_ | ((first | refine vr_ ?_ | fail)<;>(try simp only [htl,go_sem,↓reduceIte])) | ((first | (refine cs_ ?_ ?_<;>intro hc) | refine cj_ ?_ | simp (disch:=omega) only [encs_getN,qb])<;>(try refine ev_ ?_)) | with_reducible exact ti_)
    all_goals try (exfalso;omega)
    exact qt (S:=S) (L:=[]) rfl hbd ⟨rfl,rfl⟩
end Go.Proofs.YtkenggenkmfopaaGreat
