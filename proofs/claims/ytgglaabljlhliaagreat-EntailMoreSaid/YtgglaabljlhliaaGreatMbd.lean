/- Texts of this proof, joined. -/
import Derived.Test.YtgglaabljlhliaaGreatMba
import Derived.Test.YtgglaabljlhliaaGreatMbc
set_option linter.unusedVariables false
set_option linter.unusedSimpArgs false

/- substitutions: found, got -/
set_option maxRecDepth 4000
namespace Go.Proofs.YtgglaabljlhliaaGreat
open Go Go.RowKit Go.V

theorem qfn (v:Int):qe2 [] v = .tup [.int .i64 0,.bool false]:=rfl
theorem qbey (v:Int):qg Tryz.prog 143 [.sl 4 [],.int .i64 v,.fn 144 [] []] (qe2 [] v):=by
 refine qd c0z (by simp) (by simp only [go_sem]) rfl fun hw=>?_
 rw [qfn]
 repeat' (first | refine vs_ ?_ | ((first | refine vr_ ?_ | (refine cs_ ?_ ?_<;>intro hc) | refine cj_ ?_ | simp (disch:=omega) only [encs_getN,qb])<;>(try refine ev_ ?_)) | with_reducible exact ti_)
 refine qi (S:=Unit) (fun _=>True) (fun _=>(⟨[(0,.sl 4 []),(1,.int .i64 v),(2,.fn 144 [] []),(8,.int .i64 0),(9,.int .i64 0),(10,.int .i64 0)],[]⟩,[])) (fun _=>0) ?_ fun x hx=>?_
 ·refine qf () [] trivial rfl (by simp) ?_ ?_ ?_<;>(try refine ev_ ?_)<;>(try with_reducible exact ti_)<;>(try simp (disch:=omega) only [qb,and_true,true_and])
 ·repeat' (first | refine vs_ ?_ | ((first | refine vr_ ?_ | (refine cs_ ?_ ?_<;>intro hc) | refine cj_ ?_ | simp (disch:=omega) only [encs_getN,qb])<;>(try refine ev_ ?_)) | with_reducible exact ti_)
  ·exact absurd hc (by omega)
  ·exact ⟨rfl,rfl⟩
def subH (s:List Pr):List Ent:=if s = [] then [.blk [.nils]] else [.blk [.row 1 s.length],qcc s]
theorem qon:subH [] = [.blk [.nils]]:=rfl
theorem qsg {s:List Pr} (h:s≠[]):subH s = [.blk [.row 1 s.length],qcc s]:=by rw [subH,if_neg h]
abbrev subE (s:List Pr):Ent:=bun (subH s)
theorem qkq {Q:List Ent->VO->Prop} {H':List Ent} {r:AV} (h0:ent H' 0 = .blk [.nils]) (hl:0 < H'.length) (hr:r.bd 0 = true) (h:Q [subE []] (.val r)):qg1 Q H' (.val r) :=
 ⟨[.blk [.nils]],[0],rfl,by simp,by simp,⟨⟨hl,rfl,by rw [h0];rfl⟩,trivial⟩,qnm (Nat.zero_le _) _ hr,h⟩
theorem qd9 {Q:List Ent->VO->Prop} {H':List Ent} {s:List Pr} {r:AV} (k:Nat) (hs:s≠[]) (h0:ent H' 0 = .blk [.row k s.length]) (h1:ent H' k = qcc s) (hk:0 < k) (hl:k < H'.length) (hr:r.bd 0 = true) (h:Q [subE s] (.val r)):qg1 Q H' (.val r) :=
 ⟨[.blk [.row 1 s.length],qcc s],[0,k],rfl,by simp,by simp;omega,⟨⟨by omega,rfl,by rw [h0];rfl⟩,⟨hl,qhf s 2,by rw [h1];simp only [qcc,Ent.ren,qku]⟩,trivial⟩,qnm (Nat.zero_le _) _ hr,by rwa [subE,qsg hs] at h⟩
theorem qft (σ:Nat->Nat) (s:List Pr):(qcc s).ren σ = qcc s:=by simp only [qcc,Ent.ren,qku]
theorem qif:∀ {H:List Ent} {i:Nat} {e:Ent},ent H i = e->i < H.length->H.set i e = H
 | [],i,e,_,hl=>by simp at hl
 | x :: r,0,e,h,_=>by rw [← h];rfl
 | x :: r, i + 1, e, h, hl => by
   have h':ent r i = e:=h
   rw [List.set_cons_succ,qif h' (by simpa using hl)]
theorem q6n (v:Int):VCalls Tryz.prog 133 [.blk [.nils]] [.ptr 0 0,.int .i64 v] fun H' o=>H' = [.blk [.nils]]∧o = .val (qe2 [] v):=by
 refine qr c0ba 1 (by simp) (by simp) ?_
 rw [qfn]
 repeat' (first | refine vs_ ?_ | ((first | refine vr_ ?_ | refine qa (qbey _) fun _=>?_ | simp (disch:=omega) only [qfn] | (refine cs_ ?_ ?_<;>intro hc) | refine cj_ ?_ | fail)<;>(try refine ev_ ?_)) | with_reducible exact ti_)
theorem qbfw {s:List Pr} (ho:risR s) (hl:s.length≤100000) (v:Int):VCalls Tryz.prog 133 [.blk [.row 1 s.length],qcc s] [.ptr 0 0,.int .i64 v] fun H' o=>H' = [.blk [.row 1 s.length],qcc s]∧o = .val (qe2 s v):=by
 refine qr c0ba 2 (by simp) (by simp [qcc,Ent.bd,qek]) ?_
 rw [qe2]
 repeat' (first | refine vs_ ?_ | ((first | refine vr_ ?_ | refine qcd 1 (qbck ho hl v) ?_ (qhf s 0) (qhf s 0) | simp (disch:=omega) only [qe2] | (refine cs_ ?_ ?_<;>intro hc) | refine cj_ ?_ | fail)<;>(try refine ev_ ?_)) | with_reducible exact ti_)
section
variable {H:List Ent} {Q:List Ent->VO->Prop} {K:Md->AV->List Ent->Prop} {raws:List AV} {s:List Pr}
theorem qq8 (v:Int) (hq:Q H (.val (qe2 [] v))) (h0:ent H 0 = .blk [.nils]:=by rfl) (hl':0 < H.length:=by simp):VApp Tryz.prog H (.fn 133 [] []) [.ptr 0 0,.int .i64 v] Q:=by
 refine qc1 ?_
 rw [List.nil_append,List.append_nil]
 refine qb9 [0] (q6n v) (by simp) ⟨⟨by omega,rfl,h0⟩,trivial⟩ rfl rfl fun H1 o ho=>?_
 obtain ⟨rfl,rfl⟩:=ho
 have:qkh H [0] [.blk [.nils]] = H:=by
  show (H.set 0 (.blk [.nils])) ++ [] = H
  rw [List.append_nil,qif h0 hl']
 rw [this]
 exact hq
theorem qhp (ho:risR s) (hl:s.length≤100000) (v:Int) (hq:Q H (.val (qe2 s v))) (h0:ent H 0 = .blk [.row 1 s.length]:=by rfl) (h1:ent H 1 = qcc s:=by rfl) (hl':1 < H.length:=by simp):VApp Tryz.prog H (.fn 133 [] []) [.ptr 0 0,.int .i64 v] Q:=by
 refine qc1 ?_
 rw [List.nil_append,List.append_nil]
 refine qb9 [0,1] (qbfw ho hl v) (by simp) ⟨⟨by omega,rfl,h0⟩,⟨hl',qhf s 2,by rw [h1,qft]⟩,trivial⟩ rfl rfl fun H1 o ho=>?_
 obtain ⟨rfl,rfl⟩:=ho
 have:qkh H [0,1] [.blk [.row 1 s.length],qcc s] = H:=by
  show ((H.set 0 (.blk [.row 1 s.length])).set 1 ((qcc s).ren _)) ++ [] = H
  rw [List.append_nil,qft,qif h0 (by omega),qif h1 hl']
 rw [this]
 exact hq
end
set_option maxRecDepth 4000

def getV (s:List Pr) (v:Int):AV:=.tup [encY ((qbh v s).getD Y0),.bool (qbh v s).isSome]
theorem qbo0 (k:Nat) (s:List Pr) (v:Int):(getV s v).bd k = true:=by simp only [getV,AV.bd,AV.bds,qcb,Bool.and_true,Bool.true_and]
theorem qbh7 (v:Int):VCalls Tryz.prog 136 [.blk [.nils]] [.ptr 0 0,.int .i64 v] (qg1 fun H' o=>H' = [subE []]∧o = .val (getV [] v)):=by
 refine qr c0y 1 (by simp) (by simp) ?_
 repeat' (first | refine vs_ ?_ | ((first | refine vr_ ?_ | refine qq8 v ?_ | simp (disch:=omega) only [qfn] | (refine cs_ ?_ ?_<;>intro hc) | refine cj_ ?_ | simp (disch:=omega) only [encs_getN,qb])<;>(try refine ev_ ?_)) | with_reducible exact ti_)
 all_goals exact qkq rfl (by simp) rfl ⟨rfl,rfl⟩
theorem qb14 {s:List Pr} (hs:s≠[]) (ho:risR s) (hl:s.length≤100000) (v:Int):VCalls Tryz.prog 136 [.blk [.row 1 s.length],qcc s] [.ptr 0 0,.int .i64 v] (qg1 fun H' o=>H' = [subE s]∧o = .val (getV s v)):=by
 refine qr c0y 2 (by simp) (by simp [qcc,Ent.bd,qek]) ?_
 have hlk:=qjm (v:=v) ho
 have hf:qe2 s v = .tup [.int .i64 (ahdR v s),.bool (qbh v s).isSome]:=rfl
 by_cases hin:ahdR v s < s.length∧(s.getD (ahdR v s) R0).v = v
 ·rw [if_pos hin] at hlk
  have hp:=qf3 hin.1
  have hi:=hin.1
  rw [hlk,Option.isSome_some] at hf
  have hg:getV s v = .tup [encY (s.getD (ahdR v s) R0).ty,.bool true]:=by rw [getV,hlk];rfl
  rw [hg]
  clear hin
  repeat' (first | refine vs_ ?_ | ((first | refine vr_ ?_ | fail)<;>(try simp only [hp,go_sem,↓reduceIte])) | ((first | simp (disch:=omega) only [hf] | simp (disch:=omega) only [hp] | (refine cs_ ?_ ?_<;>intro hc) | refine cj_ ?_ | simp (disch:=omega) only [encs_getN,qb] | refine qhp ho hl v ?_)<;>(try refine ev_ ?_)) | with_reducible exact ti_)
  all_goals exact qd9 1 hs rfl rfl (by simp) (by simp) (by first | rfl | simp only [AV.bd,AV.bds,qcb,Bool.and_true]) ⟨rfl,rfl⟩
 ·rw [if_neg hin] at hlk
  rw [hlk,Option.isSome_none] at hf
  have hg:getV s v = .tup [encY Y0,.bool false]:=by rw [getV,hlk];rfl
  rw [hg]
  repeat' (first | refine vs_ ?_ | ((first | refine vr_ ?_ | refine qhp ho hl v ?_ | simp (disch:=omega) only [hf] | (refine cs_ ?_ ?_<;>intro hc) | refine cj_ ?_ | simp (disch:=omega) only [encs_getN,qb])<;>(try refine ev_ ?_)) | with_reducible exact ti_)
  all_goals exact qd9 1 hs rfl rfl (by simp) (by simp) (by first | rfl | simp only [AV.bd,AV.bds,qcb,Bool.and_true]) ⟨rfl,rfl⟩
theorem q2d {s:List Pr} (ho:risR s) (hl:s.length≤100000) (v:Int):VM Tryz.prog 136 (subE s) (subE s) [.ptr 0 0,.int .i64 v] (getV s v):=by
 by_cases hs:s = []
 ·subst hs
  exact qwi (by rw [qon];exact qbh7 v) rfl
 ·exact qwi (by have:=qb14 hs ho hl v;rwa [← qsg hs] at this) rfl
set_option maxRecDepth 4000

abbrev insF:FuncId:=134
theorem qkm (p:Pr):(encR p).cells.length = 4∧(encR p).flat:=⟨rfl,.inl ⟨rfl,rfl⟩⟩
theorem qxq (l:List Pr):∀ e∈qde l,e.flat:=fun e he=>by
 obtain ⟨p,_,rfl⟩:=List.mem_map.1 he
 exact (qkm p).2
section
variable {H:List Ent} {K:Md->AV->List Ent->Prop} {args raws:List AV} {s:List Pr} {p:Pr}
theorem qbsw (j:Nat) {i:Nat} (hi:i≤s.length) (hl:s.length≤100000) (h1:ent H j = qcc s):Gro Tryz.prog H (.fn insF [] []) [.row j s.length,.int .i64 i,.lit 4 [encR p]] (some (j,qcc s)) (qcc (s.take i ++ p :: s.drop i)) (s.length + 1):=by
 refine ⟨fun q hq=>by cases hq;exact ⟨by simp,h1⟩,fun H₀ h0=>?_⟩
 have h0:ent H₀ j = qcc s:=h0 _ rfl
 have hl':=(List.getElem?_eq_some_iff.1 (qz h0 (by simp))).1
 have hv:=q5c (es:=qde s) (x:=encR p) (i:=i) (by rw [qgy];exact hi) (by rw [qgy];omega) (qkm p) (by simp only [AV.bds,qib,qek,Bool.and_true]) (qxq s)
 rw [qgy] at hv
 refine qc1 ?_
 rw [List.nil_append,List.append_nil]
 refine qb9 [j] hv (by simp) ⟨⟨hl',qhf s 1,by rw [h0,qft]⟩,trivial⟩ (by simp [AV.bds,AV.bd,qib]) (by simp only [AV.rens,AV.ren,qo6];rfl) fun H1 o ho=>?_
 obtain ⟨rfl,rfl⟩:=ho
 have he:qde (s.take i ++ p :: s.drop i) = (qde s).take i ++ encR p :: (qde s).drop i:=by simp [qde]
 refine ⟨?_,?_⟩
 ·rw [← he]
  show (H₀.set j .dead) ++ [(qcc (s.take i ++ p :: s.drop i)).ren _] = (H₀.set j .dead) ++ [_]
  rw [qft]
 ·show VO.val (.row (H₀.length + (1 - 1)) _) = _
  simp
theorem qbji:Gro Tryz.prog H (.fn insF [] []) [.nils,.int .i64 0,.lit 4 [encR p]] none (qcc [p]) 1:=by
 refine ⟨fun q hq=>(by cases hq),fun H₀ h0=>?_⟩
 refine qc1 ?_
 rw [List.nil_append,List.append_nil]
 refine qb9 [] (qr8 (qkm p)) (by simp) trivial (by simp [AV.bds,AV.bd,qib]) (by simp only [AV.rens,AV.ren,qo6]) fun H1 o ho=>?_
 obtain ⟨rfl,rfl⟩:=ho
 refine ⟨?_,?_⟩
 ·show H₀ ++ [(qcc [p]).ren _] = H₀ ++ [_]
  rw [qft]
 ·show VO.val (.row (H₀.length + (0 - 0)) _) = _
  simp
theorem qbxo (j:Nat) {i:Nat} (hi:i≤s.length) (hl:s.length≤100000) (hq:K (.grow (some (j,qcc s)) (qcc (s.take i ++ p :: s.drop i)) (s.length + 1)) (.row H.length (s.length + 1)) (H.set j .dead ++ [qcc (s.take i ++ p :: s.drop i)])) (h1:ent H j = qcc s:=by rfl) (hr:raws = [.row j s.length,.int .i64 i,.lit 4 [encR p]]:=by rfl) :
 DApp Tryz.prog H (.fn insF [] []) args raws K:=by
 subst hr
 exact .inr (.inr (.inr (.inl ⟨_,_,_,qbsw j hi hl h1,hq⟩)))
theorem qbwq (hq:K (.grow none (qcc [p]) 1) (.row H.length 1) (H ++ [qcc [p]])) (hr:raws = [.nils,.int .i64 0,.lit 4 [encR p]]:=by rfl):DApp Tryz.prog H (.fn insF [] []) args raws K:=by
 subst hr
 exact .inr (.inr (.inr (.inl ⟨_,_,_,qbji,hq⟩)))
end
theorem qvk {s:List Pr} {v:Int} {t:Ty} (h:qx t = false):setR s v t = (s,1):=by rw [setR,if_neg (by simp [h])]
theorem q44 {s:List Pr} {v:Int} {t u:Ty} (h:qx t = true) (hl:qbh v s = some u):setR s v t = (s,6):=by rw [setR,if_pos h,hl]
theorem qoj {s:List Pr} {v:Int} {t:Ty} (h:qx t = true) (hl:qbh v s = none):setR s v t = (insR v t s,0):=by rw [setR,if_pos h,hl]
theorem qbcw (v:Int) {t:Ty} (h1:szY t≤20000) (h2:dpY t≤300):VCalls Tryz.prog 112 [.blk [.nils]] [.ptr 0 0,.int .i64 v,encY t] (qg1 fun H' o=>H' = [subE (setR [] v t).1]∧o = .val (.int .i64 (setR [] v t).2)):=by
 have hLg:=qda h1 h2
 have hcp:=qfy t (by omega)
 by_cases hlg:qx t = true
 ·rw [qoj hlg rfl]
  rw [hlg] at hLg
  refine qr c0x 3 (by simp) (by simp) ?_
  repeat' (first | refine vs_ ?_ | ((first | refine vr_ ?_ | refine qa hLg fun _=>?_ | refine qa hcp fun _=>?_ | refine qq8 v ?_ | refine qbwq (p:=⟨v,t⟩) ?_ | refine qc hLg ?_ | refine qc hcp ?_ | simp (disch:=omega) only [qfn] | (refine cs_ ?_ ?_<;>intro hc) | refine cj_ ?_ | fail)<;>(try refine ev_ ?_)) | with_reducible exact ti_)
  all_goals exact qd9 (s:=insR v t []) 2 (by simp [qnt]) rfl rfl (by simp) (by simp) rfl ⟨rfl,rfl⟩
 ·have hlg:qx t = false:=by simpa using hlg
  rw [qvk hlg]
  rw [hlg] at hLg
  refine qr c0x 1 (by simp) (by simp) ?_
  repeat' (first | refine vs_ ?_ | ((first | refine vr_ ?_ | refine qa hLg fun _=>?_ | refine qc hLg ?_ | (refine cs_ ?_ ?_<;>intro hc) | refine cj_ ?_ | fail)<;>(try refine ev_ ?_)) | with_reducible exact ti_)
  all_goals exact qkq rfl (by simp) rfl ⟨rfl,rfl⟩
theorem qb16 {s:List Pr} (hs:s≠[]) (ho:risR s) (hl:s.length≤100000) (v:Int) {t:Ty} (h1:szY t≤20000) (h2:dpY t≤300):VCalls Tryz.prog 112 [.blk [.row 1 s.length],qcc s] [.ptr 0 0,.int .i64 v,encY t] (qg1 fun H' o=>H' = [subE (setR s v t).1]∧o = .val (.int .i64 (setR s v t).2)):=by
 have hLg:=qda h1 h2
 have hcp:=qfy t (by omega)
 have hA:=qoq v s
 by_cases hlg:qx t = true
 ·cases hlk:qbh v s with
  | some u =>
    have hf:qe2 s v = .tup [.int .i64 (ahdR v s),.bool true]:=by rw [qe2,hlk];rfl
    rw [q44 hlg hlk]
    rw [hlg] at hLg
    refine qr c0x 2 (by simp) (by simp) ?_
    repeat' (first | refine vs_ ?_ | ((first | refine vr_ ?_ | refine qa hLg fun _=>?_ | refine qhp ho hl v ?_ | refine qc hLg ?_ | simp (disch:=omega) only [hf] | (refine cs_ ?_ ?_<;>intro hc) | refine cj_ ?_ | fail)<;>(try refine ev_ ?_)) | with_reducible exact ti_)
    all_goals exact qd9 1 hs rfl rfl (by simp) (by simp) rfl ⟨rfl,rfl⟩
  | none =>
    have hf:qe2 s v = .tup [.int .i64 (ahdR v s),.bool false]:=by rw [qe2,hlk];rfl
    rw [qoj hlg hlk]
    rw [hlg] at hLg
    refine qr c0x 4 (by simp) (by simp) ?_
    repeat' (first | refine vs_ ?_ | ((first | refine vr_ ?_ | refine qa hLg fun _=>?_ | refine qa hcp fun _=>?_ | refine qhp ho hl v ?_ | refine qbxo 1 (p:=⟨v,t⟩) hA hl ?_ | refine qc hLg ?_ | refine qc hcp ?_ | simp (disch:=omega) only [hf] | (refine cs_ ?_ ?_<;>intro hc) | refine cj_ ?_ | fail)<;>(try refine ev_ ?_)) | with_reducible exact ti_)
    all_goals exact qd9 (s:=insR v t s) 3 (by simp [insR]) (by rw [qus];rfl) rfl (by simp) (by simp) rfl ⟨rfl,rfl⟩
 ·have hlg:qx t = false:=by simpa using hlg
  rw [qvk hlg]
  rw [hlg] at hLg
  refine qr c0x 2 (by simp) (by simp) ?_
  repeat' (first | refine vs_ ?_ | ((first | refine vr_ ?_ | refine qa hLg fun _=>?_ | refine qc hLg ?_ | (refine cs_ ?_ ?_<;>intro hc) | refine cj_ ?_ | fail)<;>(try refine ev_ ?_)) | with_reducible exact ti_)
  all_goals exact qd9 1 hs rfl rfl (by simp) (by simp) rfl ⟨rfl,rfl⟩
theorem qoe {s:List Pr} (ho:risR s) (hl:s.length≤100000) (v:Int) {t:Ty} (h1:szY t≤20000) (h2:dpY t≤300):VM Tryz.prog 112 (subE s) (subE (setR s v t).1) [.ptr 0 0,.int .i64 v,encY t] (.int .i64 (setR s v t).2):=by
 by_cases hs:s = []
 ·subst hs
  exact qwi (by rw [qon];exact qbcw v h1 h2) (by simp [AV.bds,AV.bd,qcb])
 ·exact qwi (by have:=qb16 hs ho hl v h1 h2;rwa [← qsg hs] at this) (by simp [AV.bds,AV.bd,qcb])
end Go.Proofs.YtgglaabljlhliaaGreat
