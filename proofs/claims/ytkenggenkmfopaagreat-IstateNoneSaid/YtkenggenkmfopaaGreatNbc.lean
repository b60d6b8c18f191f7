/- Texts of this proof, joined. -/
import Derived.Test.YtkenggenkmfopaaGreatNba
import Derived.Test.YtkenggenkmfopaaGreatNbb
set_option linter.unusedVariables false
set_option linter.unusedSimpArgs false

/- substitutions: found, got -/
set_option maxRecDepth 4000
namespace Go.Proofs.YtkenggenkmfopaaGreat
open Go Go.RowKit Go.V

theorem qft (v:Int):qe1 [] v = .tup [.int .i64 0,.bool false]:=rfl
theorem qbj9 (v:Int):qi Tryz.prog 155 [.sl 4 [],.int .i64 v,.fn 156 [] []] (qe1 [] v):=by
 refine qd c0dd (by simp) (by simp only [go_sem]) rfl fun hw=>?_
 rw [qft]
 repeat' (first | refine vs_ ?_ | ((first | refine vr_ ?_ | (refine cs_ ?_ ?_<;>intro hc) | refine cj_ ?_ | simp (disch:=omega) only [encs_getN,qb])<;>(try refine ev_ ?_)) | with_reducible exact ti_)
 refine qp (S:=Unit) (fun _=>True) (fun _=>(⟨[(0,.sl 4 []),(1,.int .i64 v),(2,.fn 156 [] []),(8,.int .i64 0),(9,.int .i64 0),(10,.int .i64 0)],[]⟩,[])) (fun _=>0) ?_ fun x hx=>?_
 ·refine qm () [] trivial rfl (by simp) ?_ ?_ ?_<;>(try refine ev_ ?_)<;>(try with_reducible exact ti_)<;>(try simp (disch:=omega) only [qb,and_true,true_and])
 ·repeat' (first | refine vs_ ?_ | ((first | refine vr_ ?_ | (refine cs_ ?_ ?_<;>intro hc) | refine cj_ ?_ | simp (disch:=omega) only [encs_getN,qb])<;>(try refine ev_ ?_)) | with_reducible exact ti_)
  ·exact absurd hc (by omega)
  ·exact ⟨rfl,rfl⟩
def subH (s:List Pr):List Ent:=if s = [] then [.blk [.nils]] else [.blk [.row 1 s.length],qby s]
theorem qiq:subH [] = [.blk [.nils]]:=rfl
theorem qmn {s:List Pr} (h:s≠[]):subH s = [.blk [.row 1 s.length],qby s]:=by rw [subH,if_neg h]
abbrev subE (s:List Pr):Ent:=bun (subH s)
theorem qgc {Q:List Ent->VO->Prop} {H':List Ent} {r:AV} (h0:ent H' 0 = .blk [.nils]) (hl:0 < H'.length) (hr:r.bd 0 = true) (h:Q [subE []] (.val r)):qci Q H' (.val r) :=
 ⟨[.blk [.nils]],[0],rfl,by simp,by simp,⟨⟨hl,rfl,by rw [h0];rfl⟩,trivial⟩,qki (Nat.zero_le _) _ hr,h⟩
theorem qdt {Q:List Ent->VO->Prop} {H':List Ent} {s:List Pr} {r:AV} (k:Nat) (hs:s≠[]) (h0:ent H' 0 = .blk [.row k s.length]) (h1:ent H' k = qby s) (hk:0 < k) (hl:k < H'.length) (hr:r.bd 0 = true) (h:Q [subE s] (.val r)):qci Q H' (.val r) :=
 ⟨[.blk [.row 1 s.length],qby s],[0,k],rfl,by simp,by simp;omega,⟨⟨by omega,rfl,by rw [h0];rfl⟩,⟨hl,qha s 2,by rw [h1];simp only [qby,Ent.ren,qjo]⟩,trivial⟩,qki (Nat.zero_le _) _ hr,by rwa [subE,qmn hs] at h⟩
theorem qfq (σ:Nat->Nat) (s:List Pr):(qby s).ren σ = qby s:=by simp only [qby,Ent.ren,qjo]
theorem qbp:∀ {H:List Ent} {i:Nat} {e:Ent},ent H i = e->i < H.length->H.set i e = H
 | [],i,e,_,hl=>by simp at hl
 | x :: r,0,e,h,_=>by rw [← h];rfl
 | x :: r, i + 1, e, h, hl => by
   have h':ent r i = e:=h
   rw [List.set_cons_succ,qbp h' (by simpa using hl)]
theorem q7s (v:Int):VCalls Tryz.prog 107 [.blk [.nils]] [.ptr 0 0,.int .i64 v] fun H' o=>H' = [.blk [.nils]]∧o = .val (qe1 [] v):=by
 refine qc c0de 1 (by simp) (by simp) ?_
 rw [qft]
 repeat' (first | refine vs_ ?_ | ((first | refine vr_ ?_ | refine qa (qbj9 _) fun _=>?_ | simp (disch:=omega) only [qft] | (refine cs_ ?_ ?_<;>intro hc) | refine cj_ ?_ | fail)<;>(try refine ev_ ?_)) | with_reducible exact ti_)
theorem qbfp {s:List Pr} (ho:risR s) (hl:s.length≤100000) (v:Int):VCalls Tryz.prog 107 [.blk [.row 1 s.length],qby s] [.ptr 0 0,.int .i64 v] fun H' o=>H' = [.blk [.row 1 s.length],qby s]∧o = .val (qe1 s v):=by
 refine qc c0de 2 (by simp) (by simp [qby,Ent.bd,qda]) ?_
 rw [qe1]
 repeat' (first | refine vs_ ?_ | ((first | refine vr_ ?_ | refine qbl 1 (qbi0 ho hl v) ?_ (qha s 0) (qha s 0) | simp (disch:=omega) only [qe1] | (refine cs_ ?_ ?_<;>intro hc) | refine cj_ ?_ | fail)<;>(try refine ev_ ?_)) | with_reducible exact ti_)
section
variable {H:List Ent} {Q:List Ent->VO->Prop} {K:Md->AV->List Ent->Prop} {raws:List AV} {s:List Pr}
theorem qn0 (v:Int) (hq:Q H (.val (qe1 [] v))) (h0:ent H 0 = .blk [.nils]:=by rfl) (hl':0 < H.length:=by simp):VApp Tryz.prog H (.fn 107 [] []) [.ptr 0 0,.int .i64 v] Q:=by
 refine qbs ?_
 rw [List.nil_append,List.append_nil]
 refine q9 [0] (q7s v) (by simp) ⟨⟨by omega,rfl,h0⟩,trivial⟩ rfl rfl fun H1 o ho=>?_
 obtain ⟨rfl,rfl⟩:=ho
 have:qdm H [0] [.blk [.nils]] = H:=by
  show (H.set 0 (.blk [.nils])) ++ [] = H
  rw [List.append_nil,qbp h0 hl']
 rw [this]
 exact hq
theorem qgq (ho:risR s) (hl:s.length≤100000) (v:Int) (hq:Q H (.val (qe1 s v))) (h0:ent H 0 = .blk [.row 1 s.length]:=by rfl) (h1:ent H 1 = qby s:=by rfl) (hl':1 < H.length:=by simp):VApp Tryz.prog H (.fn 107 [] []) [.ptr 0 0,.int .i64 v] Q:=by
 refine qbs ?_
 rw [List.nil_append,List.append_nil]
 refine q9 [0,1] (qbfp ho hl v) (by simp) ⟨⟨by omega,rfl,h0⟩,⟨hl',qha s 2,by rw [h1,qfq]⟩,trivial⟩ rfl rfl fun H1 o ho=>?_
 obtain ⟨rfl,rfl⟩:=ho
 have:qdm H [0,1] [.blk [.row 1 s.length],qby s] = H:=by
  show ((H.set 0 (.blk [.row 1 s.length])).set 1 ((qby s).ren _)) ++ [] = H
  rw [List.append_nil,qfq,qbp h0 (by omega),qbp h1 hl']
 rw [this]
 exact hq
end
set_option maxRecDepth 4000

def getV (s:List Pr) (v:Int):AV:=.tup [encY ((qn v s).getD Y0),.bool (qn v s).isSome]
theorem qbd5 (k:Nat) (s:List Pr) (v:Int):(getV s v).bd k = true:=by simp only [getV,AV.bd,AV.bds,qw,Bool.and_true,Bool.true_and]
theorem qbdd (v:Int):VCalls Tryz.prog 123 [.blk [.nils]] [.ptr 0 0,.int .i64 v] (qci fun H' o=>H' = [subE []]∧o = .val (getV [] v)):=by
 refine qc c0dc 1 (by simp) (by simp) ?_
 repeat' (first | refine vs_ ?_ | ((first | refine vr_ ?_ | refine qn0 v ?_ | simp (disch:=omega) only [qft] | (refine cs_ ?_ ?_<;>intro hc) | refine cj_ ?_ | simp (disch:=omega) only [encs_getN,qb])<;>(try refine ev_ ?_)) | with_reducible exact ti_)
 all_goals exact qgc rfl (by simp) rfl ⟨rfl,rfl⟩
theorem qbrm {s:List Pr} (hs:s≠[]) (ho:risR s) (hl:s.length≤100000) (v:Int):VCalls Tryz.prog 123 [.blk [.row 1 s.length],qby s] [.ptr 0 0,.int .i64 v] (qci fun H' o=>H' = [subE s]∧o = .val (getV s v)):=by
 refine qc c0dc 2 (by simp) (by simp [qby,Ent.bd,qda]) ?_
 have hlk:=qis (v:=v) ho
 have hf:qe1 s v = .tup [.int .i64 (ahdR v s),.bool (qn v s).isSome]:=rfl
 by_cases hin:ahdR v s < s.length∧(s.getD (ahdR v s) R0).v = v
 ·rw [if_pos hin] at hlk
  have hp:=qb3 hin.1
  have hi:=hin.1
  rw [hlk,Option.isSome_some] at hf
  have hg:getV s v = .tup [encY (s.getD (ahdR v s) R0).ty,.bool true]:=by rw [getV,hlk];rfl
  rw [hg]
  clear hin
  repeat' (first | refine vs_ ?_ | ((first | refine vr_ ?_ | fail)<;>(try simp only [hp,go_sem,↓reduceIte])) | ((first | simp (disch:=omega) only [hf] | simp (disch:=omega) only [hp] | (refine cs_ ?_ ?_<;>intro hc) | refine cj_ ?_ | simp (disch:=omega) only [encs_getN,qb] | refine qgq ho hl v ?_)<;>(try refine ev_ ?_)) | with_reducible exact ti_)
  all_goals exact qdt 1 hs rfl rfl (by simp) (by simp) (by first | rfl | simp only [AV.bd,AV.bds,qw,Bool.and_true]) ⟨rfl,rfl⟩
 ·rw [if_neg hin] at hlk
  rw [hlk,Option.isSome_none] at hf
  have hg:getV s v = .tup [encY Y0,.bool false]:=by rw [getV,hlk];rfl
  rw [hg]
  repeat' (first | refine vs_ ?_ | ((first | refine vr_ ?_ | refine qgq ho hl v ?_ | simp (disch:=omega) only [hf] | (refine cs_ ?_ ?_<;>intro hc) | refine cj_ ?_ | simp (disch:=omega) only [encs_getN,qb])<;>(try refine ev_ ?_)) | with_reducible exact ti_)
  all_goals exact qdt 1 hs rfl rfl (by simp) (by simp) (by first | rfl | simp only [AV.bd,AV.bds,qw,Bool.and_true]) ⟨rfl,rfl⟩
theorem qr5 {s:List Pr} (ho:risR s) (hl:s.length≤100000) (v:Int):VM Tryz.prog 123 (subE s) (subE s) [.ptr 0 0,.int .i64 v] (getV s v):=by
 by_cases hs:s = []
 ·subst hs
  exact qcd (by rw [qiq];exact qbdd v) rfl
 ·exact qcd (by have:=qbrm hs ho hl v;rwa [← qmn hs] at this) rfl
set_option maxRecDepth 4000

abbrev insF:FuncId:=108
theorem qjx (p:Pr):(encR p).cells.length = 4∧(encR p).flat:=⟨rfl,.inl ⟨rfl,rfl⟩⟩
theorem qla (l:List Pr):∀ e∈qbq l,e.flat:=fun e he=>by
 obtain ⟨p,_,rfl⟩:=List.mem_map.1 he
 exact (qjx p).2
section
variable {H:List Ent} {K:Md->AV->List Ent->Prop} {args raws:List AV} {s:List Pr} {p:Pr}
theorem q9e (j:Nat) {i:Nat} (hi:i≤s.length) (hl:s.length≤100000) (h1:ent H j = qby s):Gro Tryz.prog H (.fn insF [] []) [.row j s.length,.int .i64 i,.lit 4 [encR p]] (some (j,qby s)) (qby (s.take i ++ p :: s.drop i)) (s.length + 1):=by
 refine ⟨fun q hq=>by cases hq;exact ⟨by simp,h1⟩,fun H₀ h0=>?_⟩
 have h0:ent H₀ j = qby s:=h0 _ rfl
 have hl':=(List.getElem?_eq_some_iff.1 (qu h0 (by simp))).1
 have hv:=q3a (es:=qbq s) (x:=encR p) (i:=i) (by rw [qd4];exact hi) (by rw [qd4];omega) (qjx p) (by simp only [AV.bds,qhs,qda,Bool.and_true]) (qla s)
 rw [qd4] at hv
 refine qbs ?_
 rw [List.nil_append,List.append_nil]
 refine q9 [j] hv (by simp) ⟨⟨hl',qha s 1,by rw [h0,qfq]⟩,trivial⟩ (by simp [AV.bds,AV.bd,qhs]) (by simp only [AV.rens,AV.ren,qm7];rfl) fun H1 o ho=>?_
 obtain ⟨rfl,rfl⟩:=ho
 have he:qbq (s.take i ++ p :: s.drop i) = (qbq s).take i ++ encR p :: (qbq s).drop i:=by simp [qbq]
 refine ⟨?_,?_⟩
 ·rw [← he]
  show (H₀.set j .dead) ++ [(qby (s.take i ++ p :: s.drop i)).ren _] = (H₀.set j .dead) ++ [_]
  rw [qfq]
 ·show VO.val (.row (H₀.length + (1 - 1)) _) = _
  simp
theorem qbpi:Gro Tryz.prog H (.fn insF [] []) [.nils,.int .i64 0,.lit 4 [encR p]] none (qby [p]) 1:=by
 refine ⟨fun q hq=>(by cases hq),fun H₀ h0=>?_⟩
 refine qbs ?_
 rw [List.nil_append,List.append_nil]
 refine q9 [] (qo6 (qjx p)) (by simp) trivial (by simp [AV.bds,AV.bd,qhs]) (by simp only [AV.rens,AV.ren,qm7]) fun H1 o ho=>?_
 obtain ⟨rfl,rfl⟩:=ho
 refine ⟨?_,?_⟩
 ·show H₀ ++ [(qby [p]).ren _] = H₀ ++ [_]
  rw [qfq]
 ·show VO.val (.row (H₀.length + (0 - 0)) _) = _
  simp
theorem qbte (j:Nat) {i:Nat} (hi:i≤s.length) (hl:s.length≤100000) (hq:K (.grow (some (j,qby s)) (qby (s.take i ++ p :: s.drop i)) (s.length + 1)) (.row H.length (s.length + 1)) (H.set j .dead ++ [qby (s.take i ++ p :: s.drop i)])) (h1:ent H j = qby s:=by rfl) (hr:raws = [.row j s.length,.int .i64 i,.lit 4 [encR p]]:=by rfl) :
 DApp Tryz.prog H (.fn insF [] []) args raws K:=by
 subst hr
 exact .inr (.inr (.inr (.inl ⟨_,_,_,q9e j hi hl h1,hq⟩)))
theorem qbx7 (hq:K (.grow none (qby [p]) 1) (.row H.length 1) (H ++ [qby [p]])) (hr:raws = [.nils,.int .i64 0,.lit 4 [encR p]]:=by rfl):DApp Tryz.prog H (.fn insF [] []) args raws K:=by
 subst hr
 exact .inr (.inr (.inr (.inl ⟨_,_,_,qbpi,hq⟩)))
end
theorem qs5 {s:List Pr} {v:Int} {t:Ty} (h:qf t = false):setR s v t = (s,1):=by rw [setR,if_neg (by simp [h])]
theorem q74 {s:List Pr} {v:Int} {t u:Ty} (h:qf t = true) (hl:qn v s = some u):setR s v t = (s,6):=by rw [setR,if_pos h,hl]
theorem qsa {s:List Pr} {v:Int} {t:Ty} (h:qf t = true) (hl:qn v s = none):setR s v t = (insR v t s,0):=by rw [setR,if_pos h,hl]
theorem qbmr (v:Int) {t:Ty} (h1:szY t≤20000) (h2:dpY t≤300):VCalls Tryz.prog 69 [.blk [.nils]] [.ptr 0 0,.int .i64 v,encY t] (qci fun H' o=>H' = [subE (setR [] v t).1]∧o = .val (.int .i64 (setR [] v t).2)):=by
 have hLg:=qc5 h1 h2
 have hcp:=qdz t (by omega)
 by_cases hlg:qf t = true
 ·rw [qsa hlg rfl]
  rw [hlg] at hLg
  refine qc c0db 3 (by simp) (by simp) ?_
  repeat' (first | refine vs_ ?_ | ((first | refine vr_ ?_ | refine qa hLg fun _=>?_ | refine qa hcp fun _=>?_ | refine qn0 v ?_ | refine qbx7 (p:=⟨v,t⟩) ?_ | refine qg hLg ?_ | refine qg hcp ?_ | simp (disch:=omega) only [qft] | (refine cs_ ?_ ?_<;>intro hc) | refine cj_ ?_ | fail)<;>(try refine ev_ ?_)) | with_reducible exact ti_)
  all_goals exact qdt (s:=insR v t []) 2 (by simp [qms]) rfl rfl (by simp) (by simp) rfl ⟨rfl,rfl⟩
 ·have hlg:qf t = false:=by simpa using hlg
  rw [qs5 hlg]
  rw [hlg] at hLg
  refine qc c0db 1 (by simp) (by simp) ?_
  repeat' (first | refine vs_ ?_ | ((first | refine vr_ ?_ | refine qa hLg fun _=>?_ | refine qg hLg ?_ | (refine cs_ ?_ ?_<;>intro hc) | refine cj_ ?_ | fail)<;>(try refine ev_ ?_)) | with_reducible exact ti_)
  all_goals exact qgc rfl (by simp) rfl ⟨rfl,rfl⟩
theorem qbye {s:List Pr} (hs:s≠[]) (ho:risR s) (hl:s.length≤100000) (v:Int) {t:Ty} (h1:szY t≤20000) (h2:dpY t≤300):VCalls Tryz.prog 69 [.blk [.row 1 s.length],qby s] [.ptr 0 0,.int .i64 v,encY t] (qci fun H' o=>H' = [subE (setR s v t).1]∧o = .val (.int .i64 (setR s v t).2)):=by
 have hLg:=qc5 h1 h2
 have hcp:=qdz t (by omega)
 have hA:=qno v s
 by_cases hlg:qf t = true
 ·cases hlk:qn v s with
  | some u =>
    have hf:qe1 s v = .tup [.int .i64 (ahdR v s),.bool true]:=by rw [qe1,hlk];rfl
    rw [q74 hlg hlk]
    rw [hlg] at hLg
    refine qc c0db 2 (by simp) (by simp) ?_
    repeat' (first | refine vs_ ?_ | ((first | refine vr_ ?_ | refine qa hLg fun _=>?_ | refine qgq ho hl v ?_ | refine qg hLg ?_ | simp (disch:=omega) only [hf] | (refine cs_ ?_ ?_<;>intro hc) | refine cj_ ?_ | fail)<;>(try refine ev_ ?_)) | with_reducible exact ti_)
    all_goals exact qdt 1 hs rfl rfl (by simp) (by simp) rfl ⟨rfl,rfl⟩
  | none =>
    have hf:qe1 s v = .tup [.int .i64 (ahdR v s),.bool false]:=by rw [qe1,hlk];rfl
    rw [qsa hlg hlk]
    rw [hlg] at hLg
    refine qc c0db 4 (by simp) (by simp) ?_
    repeat' (first | refine vs_ ?_ | ((first | refine vr_ ?_ | refine qa hLg fun _=>?_ | refine qa hcp fun _=>?_ | refine qgq ho hl v ?_ | refine qbte 1 (p:=⟨v,t⟩) hA hl ?_ | refine qg hLg ?_ | refine qg hcp ?_ | simp (disch:=omega) only [hf] | (refine cs_ ?_ ?_<;>intro hc) | refine cj_ ?_ | fail)<;>(try refine ev_ ?_)) | with_reducible exact ti_)
    all_goals exact qdt (s:=insR v t s) 3 (by simp [insR]) (by rw [qm0];rfl) rfl (by simp) (by simp) rfl ⟨rfl,rfl⟩
 ·have hlg:qf t = false:=by simpa using hlg
  rw [qs5 hlg]
  rw [hlg] at hLg
  refine qc c0db 2 (by simp) (by simp) ?_
  repeat' (first | refine vs_ ?_ | ((first | refine vr_ ?_ | refine qa hLg fun _=>?_ | refine qg hLg ?_ | (refine cs_ ?_ ?_<;>intro hc) | refine cj_ ?_ | fail)<;>(try refine ev_ ?_)) | with_reducible exact ti_)
  all_goals exact qdt 1 hs rfl rfl (by simp) (by simp) rfl ⟨rfl,rfl⟩
theorem qht {s:List Pr} (ho:risR s) (hl:s.length≤100000) (v:Int) {t:Ty} (h1:szY t≤20000) (h2:dpY t≤300):VM Tryz.prog 69 (subE s) (subE (setR s v t).1) [.ptr 0 0,.int .i64 v,encY t] (.int .i64 (setR s v t).2):=by
 by_cases hs:s = []
 ·subst hs
  exact qcd (by rw [qiq];exact qbmr v h1 h2) (by simp [AV.bds,AV.bd,qw])
 ·exact qcd (by have:=qbye hs ho hl v h1 h2;rwa [← qmn hs] at this) (by simp [AV.bds,AV.bd,qw])

/-! a receiver: there, or none -/
def svA (b:Bool) (k:Nat):AV:=if b then .ptr k 0 else .nilp
theorem qq0 (b:Bool) (k:Nat) (σ:Nat->Nat):(svA b k).ren σ = svA b (σ k):=by cases b<;>rfl
theorem qz3 (b:Bool) (k n:Nat) (h:k < n):(svA b k).bd n = true:=by
 cases b
 ·rfl
 ·show decide (k < n) = true
  exact decide_eq_true h
theorem q5v (b:Bool) (k:Nat):(svA b k).leaf = true:=by cases b<;>rfl
theorem qwu (b:Bool) (k:Nat):(svA b k).cells = [svA b k]:=by cases b<;>rfl
theorem qbdc (b:Bool) (k:Nat):(svA b k).isAgg = false:=by cases b<;>rfl
attribute [go_sem] qq0 q5v qwu qbdc
attribute [go_sem] qz3
abbrev qba3:Ent:=.cus (fun _ _ _=>True)
theorem qbpw {P:Program} {f:FuncId} {xs:List AV} {r:AV} (h:VM P f qba3 qba3 xs r) (ha:AV.bds 0 xs = true) (hr:r.bd 0 = true):qi P f xs r:=by
 refine ⟨⟨h.1,fun w M G vs hst hv=>?_⟩,ha,hr⟩
 have hlen:=hst.len
 obtain rfl:G = []:=by
  cases G with
  | nil=>rfl
  | cons g r=>simp at hlen
 let g0:Gh:={ blk:=0,cap:=0,fp:=fun _=>False }
 have hst':St w M ([] ++ [g0]) ([] ++ [qba3]):=qe8 (g:=g0) hst (Nat.le_refl _) (fun _ _=>rfl) (fun _ _ h=>h) (fun _ _ h=>.inl h) hst.Mlt (fun b hb=>False.elim hb) ⟨trivial,fun _ _ _ _ _ _=>trivial⟩
 have hv':VRs w M [g0] xs vs:=by
  have:=qb5 (σ:=id) (m:=0) (G':=[g0]) (fun i g hi hg=>by omega) (fun b o h=>⟨h,rfl⟩) xs vs ha hv
  rwa [ql (σ:=id) (m:=0) (fun _ _=>rfl) xs ha] at this
 have hno:∀ b,¬ own [g0] b:=fun b ⟨j,gj,hj,hf⟩=>by
  cases j with
  | zero=>simp at hj;subst hj;exact hf
  | succ j=>simp at hj
 refine CallsIn.mono (h.2 w M [g0] vs hst' hv') fun e w' ho=>?_
 cases e with
 | returned x =>
   obtain ⟨M',G',H',v,⟨rfl,hvr⟩,hx,hs,hv2⟩:=ho
   obtain rfl:v = r:=by simpa using hvr
   refine ⟨M',[],[],v,⟨rfl,rfl⟩,⟨hx.os,hx.tape,hx.output,hx.size,fun i g h=>by simp at h,hx.le,fun b hb _=>hx.out b hb (hno b),fun b hb=>?_,fun b o hm=>?_⟩,⟨rfl,fun i g e h=>by simp at h,fun i j g g' b h=>by simp at h,fun i g b h=>by simp at h,hs.Mlt,hs.one⟩,?_⟩
   ·obtain ⟨j,gj,hj,_⟩:=hb
    simp at hj
   ·rcases hx.Mnew b o hm with h | h | h
    ·exact .inl h
    ·exact absurd h (hno b)
    ·exact .inr (.inr h)
   ·have:=qkf (σ:=id) (m:=0) (G':=[]) (fun i g hi hg=>by omega) (fun b o h=>⟨h,rfl⟩) v x hr hv2
    rwa [ren_same (σ:=id) (m:=0) (fun _ _=>rfl) v hr] at this
 | panicked ch =>
   obtain ⟨M',G',H',v,x,⟨_,hvr⟩,_⟩:=ho
   cases hvr
 | outgrown=>exact ho
/-! runs of it -/
def brun (s:List Pr):List Ty->Int->Int->Int×List Ty
 | [],b,_=>(b,[])
 | x :: r,b,k=>((brun s r (bput s x b k).1 k).1,(bput s x b k).2 :: (brun s r (bput s x b k).1 k).2)
theorem qt4 (s:List Pr):∀ (l:List Ty) (b k:Int),(brun s l b k).2.length = l.length
 | [],_,_=>rfl
 | x :: r,b,k=>by rw [brun,List.length_cons,List.length_cons,qt4 s r]
theorem qpf (s:List Pr) (x:Ty) (k:Int):∀ (l:List Ty) (b:Int),brun s (l ++ [x]) b k = ((bput s x (brun s l b k).1 k).1,(brun s l b k).2 ++ [(bput s x (brun s l b k).1 k).2])
 | [],b=>by simp [brun]
 | y :: r,b=>by rw [List.cons_append,brun,qpf s x k r,brun];rfl
theorem qjk (s:List Pr) (k:Int) (r:List Ty):∀ (l:List Ty) (b:Int),(∀ j,j < l.length->0≤(brun s (l.take j) b k).1)->qcq s (l ++ r) b k = ((qcq s r (brun s l b k).1 k).1,(qcq s r (brun s l b k).1 k).2.map ((brun s l b k).2 ++ ·))
 | [],b,_=>by simp [brun]
 | x :: l, b, h => by
   have h0:=h 0 (by simp)
   rw [List.take_zero,brun] at h0
   have h1:=qjk s k r l (bput s x b k).1 fun j hj=>by
    have:=h (j + 1) (by simpa using hj)
    rwa [List.take_succ_cons,brun] at this
   rw [List.cons_append,qcq,if_neg (by omega),h1,brun]
   simp only [Option.map_map]
   rfl
theorem qy4 {s:List Pr} {l:List Ty} {b k:Int} (h:∀ j,j < l.length->0≤(brun s (l.take j) b k).1):qcq s l b k = ((brun s l b k).1,some (brun s l b k).2):=by
 have:=qjk s k [] l b h
 rw [List.append_nil] at this
 rw [this,qcq];simp
theorem qun {s:List Pr} {l:List Ty} {b k:Int} {i:Nat} (hi:i < l.length) (h:∀ j,j < i->0≤(brun s (l.take j) b k).1) (hn:(brun s (l.take i) b k).1 < 0):qcq s l b k = ((brun s (l.take i) b k).1,none):=by
 have h2:(l.take i).length = i:=by rw [List.length_take];omega
 have:=qjk s k (l.drop i) (l.take i) b fun j hj=>by
  rw [h2] at hj
  rw [List.take_take,Nat.min_eq_left (by omega)]
  exact h j hj
 rw [List.take_append_drop] at this
 rw [this,List.drop_eq_getElem_cons hi,qcq,if_pos hn];rfl
theorem qtp {s:List Pr} (hs:okR s) (k:Int):∀ (l:List Ty) (b:Int),(∀ j,j < l.length->0≤(brun s (l.take j) b k).1)->-4096≤b->b≤4096->-4096≤(brun s l b k).1∧(brun s l b k).1≤4096
 | [],b,_,h0,h1=>⟨h0,h1⟩
 | x :: r, b, h, h0, h1 => by
   have hb:=h 0 (by simp)
   have hb:0≤b:=hb
   have:=qsj hs x b k hb h1
   rw [brun]
   exact qtp hs k r _ (fun j hj=>by
    have:=h (j + 1) (by simpa using hj)
    rwa [List.take_succ_cons,brun] at this) this.1 this.2
def gE (o:List Ty) (n:Nat):List AV:=qj o ++ List.replicate (n - o.length) zY
theorem q8c {o:List Ty} {n:Nat} (h:o.length≤n):(gE o n).length = n:=by rw [gE,List.length_append,qbu,List.length_replicate];omega
theorem gE_0 (n:Nat):gE [] n = List.replicate n zY:=rfl
theorem q8q (o:List Ty):gE o o.length = qj o:=by rw [gE,Nat.sub_self,List.replicate_zero,List.append_nil]
theorem q8e {o:List Ty} {n:Nat} (h:o.length < n) (x:Ty):(gE o n).set o.length (encY x) = gE (o ++ [x]) n:=by
 obtain ⟨k,hk⟩:∃ k,n - o.length = k + 1:=⟨n - o.length - 1,by omega⟩
 have hk2:n - (o ++ [x]).length = k:=by rw [List.length_append,List.length_singleton];omega
 rw [gE,gE,hk,hk2,List.replicate_succ,← qjg,List.set_append_right _ _ (by rw [qbu];omega),qbu,Nat.sub_self,List.set_cons_zero,List.append_assoc]
 rfl
theorem qrt (k:Nat) (o:List Ty) (n:Nat):AV.bds k (gE o n) = true:=by
 rw [gE,qhi,qbn,qcn]
 simp [zY,AV.bd,AV.bds]
theorem qlu (σ:Nat->Nat) (o:List Ty) (n:Nat):AV.rens σ (gE o n) = gE o n:=ql (m:=0) (fun i hi=>by omega) _ (qrt 0 o n)
attribute [go_sem] qrt qlu
end Go.Proofs.YtkenggenkmfopaaGreat
