/- Texts of this proof, joined. -/
import Derived.Test.YtefcfdejmfgbpaaMaz
import Derived.Test.YtefcfdejmfgbpaaMbb
set_option linter.unusedVariables false
set_option linter.unusedSimpArgs false

/- substitutions: found, got -/
set_option maxRecDepth 4000
namespace Go.Proofs.Ytefcfdejmfgbpaa
open Go Go.RowKit Go.V

theorem qd1 (v:Int):qdq [] v = .tup [.int .i64 0,.bool false]:=rfl
theorem q1p (v:Int):qo Try.prog 34 [.sl 4 [],.int .i64 v,.fn 35 [] []] (qdq [] v):=by
 refine qj c0p (by simp) (by simp only [go_sem]) rfl fun hw=>?_
 rw [qd1]
 repeat' (first | refine vs_ ?_ | ((first | refine vr_ ?_ | (refine cs_ ?_ ?_<;>intro hc) | refine cj_ ?_ | simp (disch:=omega) only [encs_getN,qc])<;>(try refine ev_ ?_)) | with_reducible exact ti_)
 refine qbi (S:=Unit) (fun _=>True) (fun _=>(⟨[(0,.sl 4 []),(1,.int .i64 v),(2,.fn 35 [] []),(8,.int .i64 0),(9,.int .i64 0),(10,.int .i64 0)],[]⟩,[])) (fun _=>0) ?_ fun x hx=>?_
 ·refine qu () [] trivial rfl (by simp) ?_ ?_ ?_<;>(try refine ev_ ?_)<;>(try with_reducible exact ti_)<;>(try simp (disch:=omega) only [qc,and_true,true_and])
 ·repeat' (first | refine vs_ ?_ | ((first | refine vr_ ?_ | (refine cs_ ?_ ?_<;>intro hc) | refine cj_ ?_ | simp (disch:=omega) only [encs_getN,qc])<;>(try refine ev_ ?_)) | with_reducible exact ti_)
  ·exact absurd hc (by omega)
  ·exact ⟨rfl,rfl⟩
def subH (s:List Pr):List Ent:=if s = [] then [.blk [.nils]] else [.blk [.row 1 s.length],qbo s]
theorem qkm:subH [] = [.blk [.nils]]:=rfl
theorem qng {s:List Pr} (h:s≠[]):subH s = [.blk [.row 1 s.length],qbo s]:=by rw [subH,if_neg h]
abbrev subE (s:List Pr):Ent:=bun (subH s)
theorem qho {Q:List Ent->VO->Prop} {H':List Ent} {r:AV} (h0:ent H' 0 = .blk [.nils]) (hl:0 < H'.length) (hr:r.bd 0 = true) (h:Q [subE []] (.val r)):qfg Q H' (.val r) :=
 ⟨[.blk [.nils]],[0],rfl,by simp,by simp,⟨⟨hl,rfl,by rw [h0];rfl⟩,trivial⟩,qk6 (Nat.zero_le _) _ hr,h⟩
theorem qdb {Q:List Ent->VO->Prop} {H':List Ent} {s:List Pr} {r:AV} (k:Nat) (hs:s≠[]) (h0:ent H' 0 = .blk [.row k s.length]) (h1:ent H' k = qbo s) (hk:0 < k) (hl:k < H'.length) (hr:r.bd 0 = true) (h:Q [subE s] (.val r)):qfg Q H' (.val r) :=
 ⟨[.blk [.row 1 s.length],qbo s],[0,k],rfl,by simp,by simp;omega,⟨⟨by omega,rfl,by rw [h0];rfl⟩,⟨hl,qe1 s 2,by rw [h1];simp only [qbo,Ent.ren,qhj]⟩,trivial⟩,qk6 (Nat.zero_le _) _ hr,by rwa [subE,qng hs] at h⟩
theorem qdx (σ:Nat->Nat) (s:List Pr):(qbo s).ren σ = qbo s:=by simp only [qbo,Ent.ren,qhj]
theorem qf4:∀ {H:List Ent} {i:Nat} {e:Ent},ent H i = e->i < H.length->H.set i e = H
 | [],i,e,_,hl=>by simp at hl
 | x :: r,0,e,h,_=>by rw [← h];rfl
 | x :: r, i + 1, e, h, hl => by
   have h':ent r i = e:=h
   rw [List.set_cons_succ,qf4 h' (by simpa using hl)]
theorem qzu (v:Int):VCalls Try.prog 19 [.blk [.nils]] [.ptr 0 0,.int .i64 v] fun H' o=>H' = [.blk [.nils]]∧o = .val (qdq [] v):=by
 refine qh c0q 1 (by simp) (by simp) ?_
 rw [qd1]
 repeat' (first | refine vs_ ?_ | ((first | refine vr_ ?_ | refine qa (q1p _) fun _=>?_ | simp (disch:=omega) only [qd1] | (refine cs_ ?_ ?_<;>intro hc) | refine cj_ ?_ | fail)<;>(try refine ev_ ?_)) | with_reducible exact ti_)
theorem q5d {s:List Pr} (ho:risR s) (hl:s.length≤100000) (v:Int):VCalls Try.prog 19 [.blk [.row 1 s.length],qbo s] [.ptr 0 0,.int .i64 v] fun H' o=>H' = [.blk [.row 1 s.length],qbo s]∧o = .val (qdq s v):=by
 refine qh c0q 2 (by simp) (by simp [qbo,Ent.bd,qcz]) ?_
 rw [qdq]
 repeat' (first | refine vs_ ?_ | ((first | refine vr_ ?_ | refine qbj 1 (q05 ho hl v) ?_ (qe1 s 0) (qe1 s 0) | simp (disch:=omega) only [qdq] | (refine cs_ ?_ ?_<;>intro hc) | refine cj_ ?_ | fail)<;>(try refine ev_ ?_)) | with_reducible exact ti_)
section
variable {H:List Ent} {Q:List Ent->VO->Prop} {K:Md->AV->List Ent->Prop} {raws:List AV} {s:List Pr}
theorem qmu (v:Int) (hq:Q H (.val (qdq [] v))) (h0:ent H 0 = .blk [.nils]:=by rfl) (hl':0 < H.length:=by simp):VApp Try.prog H (.fn 19 [] []) [.ptr 0 0,.int .i64 v] Q:=by
 refine qcq ?_
 rw [List.nil_append,List.append_nil]
 refine qbv [0] (qzu v) (by simp) ⟨⟨by omega,rfl,h0⟩,trivial⟩ rfl rfl fun H1 o ho=>?_
 obtain ⟨rfl,rfl⟩:=ho
 have:qiu H [0] [.blk [.nils]] = H:=by
  show (H.set 0 (.blk [.nils])) ++ [] = H
  rw [List.append_nil,qf4 h0 hl']
 rw [this]
 exact hq
theorem qfe (ho:risR s) (hl:s.length≤100000) (v:Int) (hq:Q H (.val (qdq s v))) (h0:ent H 0 = .blk [.row 1 s.length]:=by rfl) (h1:ent H 1 = qbo s:=by rfl) (hl':1 < H.length:=by simp):VApp Try.prog H (.fn 19 [] []) [.ptr 0 0,.int .i64 v] Q:=by
 refine qcq ?_
 rw [List.nil_append,List.append_nil]
 refine qbv [0,1] (q5d ho hl v) (by simp) ⟨⟨by omega,rfl,h0⟩,⟨hl',qe1 s 2,by rw [h1,qdx]⟩,trivial⟩ rfl rfl fun H1 o ho=>?_
 obtain ⟨rfl,rfl⟩:=ho
 have:qiu H [0,1] [.blk [.row 1 s.length],qbo s] = H:=by
  show ((H.set 0 (.blk [.row 1 s.length])).set 1 ((qbo s).ren _)) ++ [] = H
  rw [List.append_nil,qdx,qf4 h0 (by omega),qf4 h1 hl']
 rw [this]
 exact hq
end
set_option maxRecDepth 4000

def getV (s:List Pr) (v:Int):AV:=.tup [encY ((qp v s).getD Y0),.bool (qp v s).isSome]
theorem q72 (k:Nat) (s:List Pr) (v:Int):(getV s v).bd k = true:=by simp only [getV,AV.bd,AV.bds,qbd,Bool.and_true,Bool.true_and]
theorem q7e (v:Int):VCalls Try.prog 12 [.blk [.nils]] [.ptr 0 0,.int .i64 v] (qfg fun H' o=>H' = [subE []]∧o = .val (getV [] v)):=by
 refine qh c0o 1 (by simp) (by simp) ?_
 repeat' (first | refine vs_ ?_ | ((first | refine vr_ ?_ | refine qmu v ?_ | simp (disch:=omega) only [qd1] | (refine cs_ ?_ ?_<;>intro hc) | refine cj_ ?_ | simp (disch:=omega) only [encs_getN,qc])<;>(try refine ev_ ?_)) | with_reducible exact ti_)
 all_goals exact qho rfl (by simp) rfl ⟨rfl,rfl⟩
theorem qbdw {s:List Pr} (hs:s≠[]) (ho:risR s) (hl:s.length≤100000) (v:Int):VCalls Try.prog 12 [.blk [.row 1 s.length],qbo s] [.ptr 0 0,.int .i64 v] (qfg fun H' o=>H' = [subE s]∧o = .val (getV s v)):=by
 refine qh c0o 2 (by simp) (by simp [qbo,Ent.bd,qcz]) ?_
 have hlk:=qg4 (v:=v) ho
 have hf:qdq s v = .tup [.int .i64 (ahdR v s),.bool (qp v s).isSome]:=rfl
 by_cases hin:ahdR v s < s.length∧(s.getD (ahdR v s) R0).v = v
 ·rw [if_pos hin] at hlk
  have hp:=qc9 hin.1
  have hi:=hin.1
  rw [hlk,Option.isSome_some] at hf
  have hg:getV s v = .tup [encY (s.getD (ahdR v s) R0).ty,.bool true]:=by rw [getV,hlk];rfl
  rw [hg]
  clear hin
  repeat' (first | refine vs_ ?_ | ((first | refine vr_ ?_ | fail)<;>(try simp only [hp,go_sem,↓reduceIte])) | ((first | simp (disch:=omega) only [hf] | simp (disch:=omega) only [hp] | (refine cs_ ?_ ?_<;>intro hc) | refine cj_ ?_ | simp (disch:=omega) only [encs_getN,qc] | refine qfe ho hl v ?_)<;>(try refine ev_ ?_)) | with_reducible exact ti_)
  all_goals exact qdb 1 hs rfl rfl (by simp) (by simp) (by first | rfl | simp only [AV.bd,AV.bds,qbd,Bool.and_true]) ⟨rfl,rfl⟩
 ·rw [if_neg hin] at hlk
  rw [hlk,Option.isSome_none] at hf
  have hg:getV s v = .tup [encY Y0,.bool false]:=by rw [getV,hlk];rfl
  rw [hg]
  repeat' (first | refine vs_ ?_ | ((first | refine vr_ ?_ | refine qfe ho hl v ?_ | simp (disch:=omega) only [hf] | (refine cs_ ?_ ?_<;>intro hc) | refine cj_ ?_ | simp (disch:=omega) only [encs_getN,qc])<;>(try refine ev_ ?_)) | with_reducible exact ti_)
  all_goals exact qdb 1 hs rfl rfl (by simp) (by simp) (by first | rfl | simp only [AV.bd,AV.bds,qbd,Bool.and_true]) ⟨rfl,rfl⟩
theorem qk3 {s:List Pr} (ho:risR s) (hl:s.length≤100000) (v:Int):VM Try.prog 12 (subE s) (subE s) [.ptr 0 0,.int .i64 v] (getV s v):=by
 by_cases hs:s = []
 ·subst hs
  exact qps (by rw [qkm];exact q7e v) rfl
 ·exact qps (by have:=qbdw hs ho hl v;rwa [← qng hs] at this) rfl
set_option maxRecDepth 4000

abbrev insF:FuncId:=20
theorem qic (p:Pr):(encR p).cells.length = 4∧(encR p).flat:=⟨rfl,.inl ⟨rfl,rfl⟩⟩
theorem qrd (l:List Pr):∀ e∈qbq l,e.flat:=fun e he=>by
 obtain ⟨p,_,rfl⟩:=List.mem_map.1 he
 exact (qic p).2
section
variable {H:List Ent} {K:Md->AV->List Ent->Prop} {args raws:List AV} {s:List Pr} {p:Pr}
theorem q1x (j:Nat) {i:Nat} (hi:i≤s.length) (hl:s.length≤100000) (h1:ent H j = qbo s):Gro Try.prog H (.fn insF [] []) [.row j s.length,.int .i64 i,.lit 4 [encR p]] (some (j,qbo s)) (qbo (s.take i ++ p :: s.drop i)) (s.length + 1):=by
 refine ⟨fun q hq=>by cases hq;exact ⟨by simp,h1⟩,fun H₀ h0=>?_⟩
 have h0:ent H₀ j = qbo s:=h0 _ rfl
 have hl':=(List.getElem?_eq_some_iff.1 (qs h0 (by simp))).1
 have hv:=qwh (es:=qbq s) (x:=encR p) (i:=i) (by rw [qd6];exact hi) (by rw [qd6];omega) (qic p) (by simp only [AV.bds,qfv,qcz,Bool.and_true]) (qrd s)
 rw [qd6] at hv
 refine qcq ?_
 rw [List.nil_append,List.append_nil]
 refine qbv [j] hv (by simp) ⟨⟨hl',qe1 s 1,by rw [h0,qdx]⟩,trivial⟩ (by simp [AV.bds,AV.bd,qfv]) (by simp only [AV.rens,AV.ren,qkl];rfl) fun H1 o ho=>?_
 obtain ⟨rfl,rfl⟩:=ho
 have he:qbq (s.take i ++ p :: s.drop i) = (qbq s).take i ++ encR p :: (qbq s).drop i:=by simp [qbq]
 refine ⟨?_,?_⟩
 ·rw [← he]
  show (H₀.set j .dead) ++ [(qbo (s.take i ++ p :: s.drop i)).ren _] = (H₀.set j .dead) ++ [_]
  rw [qdx]
 ·show VO.val (.row (H₀.length + (1 - 1)) _) = _
  simp
theorem q4w:Gro Try.prog H (.fn insF [] []) [.nils,.int .i64 0,.lit 4 [encR p]] none (qbo [p]) 1:=by
 refine ⟨fun q hq=>(by cases hq),fun H₀ h0=>?_⟩
 refine qcq ?_
 rw [List.nil_append,List.append_nil]
 refine qbv [] (qln (qic p)) (by simp) trivial (by simp [AV.bds,AV.bd,qfv]) (by simp only [AV.rens,AV.ren,qkl]) fun H1 o ho=>?_
 obtain ⟨rfl,rfl⟩:=ho
 refine ⟨?_,?_⟩
 ·show H₀ ++ [(qbo [p]).ren _] = H₀ ++ [_]
  rw [qdx]
 ·show VO.val (.row (H₀.length + (0 - 0)) _) = _
  simp
theorem q92 (j:Nat) {i:Nat} (hi:i≤s.length) (hl:s.length≤100000) (hq:K (.grow (some (j,qbo s)) (qbo (s.take i ++ p :: s.drop i)) (s.length + 1)) (.row H.length (s.length + 1)) (H.set j .dead ++ [qbo (s.take i ++ p :: s.drop i)])) (h1:ent H j = qbo s:=by rfl) (hr:raws = [.row j s.length,.int .i64 i,.lit 4 [encR p]]:=by rfl) :
 DApp Try.prog H (.fn insF [] []) args raws K:=by
 subst hr
 exact .inr (.inr (.inr (.inl ⟨_,_,_,q1x j hi hl h1,hq⟩)))
theorem qba6 (hq:K (.grow none (qbo [p]) 1) (.row H.length 1) (H ++ [qbo [p]])) (hr:raws = [.nils,.int .i64 0,.lit 4 [encR p]]:=by rfl):DApp Try.prog H (.fn insF [] []) args raws K:=by
 subst hr
 exact .inr (.inr (.inr (.inl ⟨_,_,_,q4w,hq⟩)))
end
theorem qg3 {s:List Pr} {v:Int} {t:Ty} (h:qi t = false):setR s v t = (s,1):=by rw [setR,if_neg (by simp [h])]
theorem qxq {s:List Pr} {v:Int} {t u:Ty} (h:qi t = true) (hl:qp v s = some u):setR s v t = (s,6):=by rw [setR,if_pos h,hl]
theorem qfr {s:List Pr} {v:Int} {t:Ty} (h:qi t = true) (hl:qp v s = none):setR s v t = (insR v t s,0):=by rw [setR,if_pos h,hl]
theorem q14 (v:Int) {t:Ty} (h1:szY t≤20000) (h2:dpY t≤300):VCalls Try.prog 14 [.blk [.nils]] [.ptr 0 0,.int .i64 v,encY t] (qfg fun H' o=>H' = [subE (setR [] v t).1]∧o = .val (.int .i64 (setR [] v t).2)):=by
 have hLg:=qcc h1 h2
 have hcp:=qd3 t (by omega)
 by_cases hlg:qi t = true
 ·rw [qfr hlg rfl]
  rw [hlg] at hLg
  refine qh c0n 3 (by simp) (by simp) ?_
  repeat' (first | refine vs_ ?_ | ((first | refine vr_ ?_ | refine qa hLg fun _=>?_ | refine qa hcp fun _=>?_ | refine qmu v ?_ | refine qba6 (p:=⟨v,t⟩) ?_ | refine qd hLg ?_ | refine qd hcp ?_ | simp (disch:=omega) only [qd1] | (refine cs_ ?_ ?_<;>intro hc) | refine cj_ ?_ | fail)<;>(try refine ev_ ?_)) | with_reducible exact ti_)
  all_goals exact qdb (s:=insR v t []) 2 (by simp [qku]) rfl rfl (by simp) (by simp) rfl ⟨rfl,rfl⟩
 ·have hlg:qi t = false:=by simpa using hlg
  rw [qg3 hlg]
  rw [hlg] at hLg
  refine qh c0n 1 (by simp) (by simp) ?_
  repeat' (first | refine vs_ ?_ | ((first | refine vr_ ?_ | refine qa hLg fun _=>?_ | refine qd hLg ?_ | (refine cs_ ?_ ?_<;>intro hc) | refine cj_ ?_ | fail)<;>(try refine ev_ ?_)) | with_reducible exact ti_)
  all_goals exact qho rfl (by simp) rfl ⟨rfl,rfl⟩
theorem q9d {s:List Pr} (hs:s≠[]) (ho:risR s) (hl:s.length≤100000) (v:Int) {t:Ty} (h1:szY t≤20000) (h2:dpY t≤300):VCalls Try.prog 14 [.blk [.row 1 s.length],qbo s] [.ptr 0 0,.int .i64 v,encY t] (qfg fun H' o=>H' = [subE (setR s v t).1]∧o = .val (.int .i64 (setR s v t).2)):=by
 have hLg:=qcc h1 h2
 have hcp:=qd3 t (by omega)
 have hA:=qk9 v s
 by_cases hlg:qi t = true
 ·cases hlk:qp v s with
  | some u =>
    have hf:qdq s v = .tup [.int .i64 (ahdR v s),.bool true]:=by rw [qdq,hlk];rfl
    rw [qxq hlg hlk]
    rw [hlg] at hLg
    refine qh c0n 2 (by simp) (by simp) ?_
    repeat' (first | refine vs_ ?_ | ((first | refine vr_ ?_ | refine qa hLg fun _=>?_ | refine qfe ho hl v ?_ | refine qd hLg ?_ | simp (disch:=omega) only [hf] | (refine cs_ ?_ ?_<;>intro hc) | refine cj_ ?_ | fail)<;>(try refine ev_ ?_)) | with_reducible exact ti_)
    all_goals exact qdb 1 hs rfl rfl (by simp) (by simp) rfl ⟨rfl,rfl⟩
  | none =>
    have hf:qdq s v = .tup [.int .i64 (ahdR v s),.bool false]:=by rw [qdq,hlk];rfl
    rw [qfr hlg hlk]
    rw [hlg] at hLg
    refine qh c0n 4 (by simp) (by simp) ?_
    repeat' (first | refine vs_ ?_ | ((first | refine vr_ ?_ | refine qa hLg fun _=>?_ | refine qa hcp fun _=>?_ | refine qfe ho hl v ?_ | refine q92 1 (p:=⟨v,t⟩) hA hl ?_ | refine qd hLg ?_ | refine qd hcp ?_ | simp (disch:=omega) only [hf] | (refine cs_ ?_ ?_<;>intro hc) | refine cj_ ?_ | fail)<;>(try refine ev_ ?_)) | with_reducible exact ti_)
    all_goals exact qdb (s:=insR v t s) 3 (by simp [insR]) (by rw [qpe];rfl) rfl (by simp) (by simp) rfl ⟨rfl,rfl⟩
 ·have hlg:qi t = false:=by simpa using hlg
  rw [qg3 hlg]
  rw [hlg] at hLg
  refine qh c0n 2 (by simp) (by simp) ?_
  repeat' (first | refine vs_ ?_ | ((first | refine vr_ ?_ | refine qa hLg fun _=>?_ | refine qd hLg ?_ | (refine cs_ ?_ ?_<;>intro hc) | refine cj_ ?_ | fail)<;>(try refine ev_ ?_)) | with_reducible exact ti_)
  all_goals exact qdb 1 hs rfl rfl (by simp) (by simp) rfl ⟨rfl,rfl⟩
theorem qki {s:List Pr} (ho:risR s) (hl:s.length≤100000) (v:Int) {t:Ty} (h1:szY t≤20000) (h2:dpY t≤300):VM Try.prog 14 (subE s) (subE (setR s v t).1) [.ptr 0 0,.int .i64 v,encY t] (.int .i64 (setR s v t).2):=by
 by_cases hs:s = []
 ·subst hs
  exact qps (by rw [qkm];exact q14 v h1 h2) (by simp [AV.bds,AV.bd,qbd])
 ·exact qps (by have:=q9d hs ho hl v h1 h2;rwa [← qng hs] at this) (by simp [AV.bds,AV.bd,qbd])

mutual
def onP:Ty->Ty->List Pr->List Pr×Bool
 | .mk c v l,t,s=>if c = [] then (match qp v s with | some u=>(s,qfu u t) | none=>((setR s v t).1,decide ((setR s v t).2 = 0)))
  else if c = t.con then (if l.length = t.args.length then onPs l t.args s else (s,false)) else (s,false)
def onPs:List Ty->List Ty->List Pr->List Pr×Bool
 | [],_,s=>(s,true)
 | x :: r,m,s=>if (onP x (m.headD Y0) s).2 = true then onPs r m.tail (onP x (m.headD Y0) s).1 else ((onP x (m.headD Y0) s).1,false)
end
theorem qbfl (p t:Ty) (s:List Pr):onP p t s = if p.con = [] then (match qp p.var s with | some u=>(s,qfu u t) | none=>((setR s p.var t).1,decide ((setR s p.var t).2 = 0)))
 else if p.con = t.con then (if p.args.length = t.args.length then onPs p.args t.args s else (s,false)) else (s,false):=by
 cases p;rw [onP];rfl
theorem qty {l m:List Ty} {i:Nat} (h:i < l.length) (h':i < m.length) (s:List Pr):onPs (l.drop i) (m.drop i) s = if (onP (l.getD i Y0) (m.getD i Y0) s).2 = true then onPs (l.drop (i + 1)) (m.drop (i + 1)) (onP (l.getD i Y0) (m.getD i Y0) s).1 else ((onP (l.getD i Y0) (m.getD i Y0) s).1,false):=by
 rw [qiw h,qiw h',onPs];rfl
theorem qzf {l m:List Ty} {i:Nat} (h:l.length≤i) (s:List Pr):onPs (l.drop i) (m.drop i) s = (s,true):=by
 rw [List.drop_of_length_le h,onPs]
mutual
theorem q0b:∀ (p t:Ty) (s:List Pr),okS s->okS (onP p t s).1∧(onP p t s).1.length≤s.length + szY p
 | .mk c v l, t, s, h => by
   rw [onP,szY]
   split
   ·cases hl:qp v s with
    | some u=>exact ⟨h,by dsimp only;omega⟩
    | none=>exact ⟨qn1 h v t,by have:=qpz s v t;dsimp only;omega⟩
   split
   ·split
    ·have:=qnf l t.args s h
     exact ⟨this.1,by omega⟩
    ·exact ⟨h,by dsimp only;omega⟩
   ·exact ⟨h,by dsimp only;omega⟩
theorem qnf:∀ (l m:List Ty) (s:List Pr),okS s->okS (onPs l m s).1∧(onPs l m s).1.length≤s.length + szYs l
 | [],m,s,h=>by rw [onPs,szYs];exact ⟨h,by dsimp only;omega⟩
 | x :: r, m, s, h => by
   have h1:=q0b x (m.headD Y0) s h
   rw [onPs,szYs]
   split
   ·have h2:=qnf r m.tail _ h1.1
    exact ⟨h2.1,by omega⟩
   ·exact ⟨h1.1,by dsimp only;omega⟩
end
def qfw (l m:List Ty) (s:List Pr):List Pr×Bool:=if l.length = m.length then onPs l m s else (s,false)
def allP (l m:List Ty):List Pr×Int:=if l.all qi = true∧m.all qi = true then (if (qfw l m []).2 = true then ((qfw l m []).1,0) else ([],14)) else ([],1)
def matP (p t:Ty):List Pr×Int:=allP [p] [t]
def abvP (p t:Ty):Bool:=decide ((matP p t).2 = 0)
theorem qzc {l m:List Ty} {s:List Pr} (h:okS s):okS (qfw l m s).1∧(qfw l m s).1.length≤s.length + szYs l:=by
 rw [qfw]
 split
 ·exact qnf l m s h
 ·exact ⟨h,by dsimp only;omega⟩
theorem qr9 {l:List Ty} {k:Nat} (h:l.all qi = true) (hl:l.length≤k):szYs l≤4096 * k:=by
 induction l generalizing k with
 | nil=>simp [szYs]
 | cons x r ih =>
   rw [List.all_cons,Bool.and_eq_true] at h
   rw [List.length_cons] at hl
   have h1:=ih (k:=k - 1) h.2 (by omega)
   have h2:=((qz x).1 h.1).1
   rw [szYs]
   have:4096 * k = 4096 * (k - 1) + 4096:=by omega
   omega
theorem q09 {l m:List Ty}:okS (allP l m).1:=by
 rw [allP]
 split
 ·split
  ·exact (qzc qf5).1
  ·exact qf5
 ·exact qf5
end Go.Proofs.Ytefcfdejmfgbpaa
