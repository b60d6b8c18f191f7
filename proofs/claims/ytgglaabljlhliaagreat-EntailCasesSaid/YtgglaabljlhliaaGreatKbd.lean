/- Texts of this proof, joined. -/
import Derived.Test.YtgglaabljlhliaaGreatKba
import Derived.Test.YtgglaabljlhliaaGreatKbc
set_option linter.unusedVariables false
set_option linter.unusedSimpArgs false

/- substitutions: found, got -/
set_option maxRecDepth 4000
namespace Go.Proofs.YtgglaabljlhliaaGreat
open Go Go.RowKit Go.V

theorem qf1 (v:Int):qe3 [] v = .tup [.int .i64 0,.bool false]:=rfl
theorem qbpa (v:Int):qg Tryz.prog 143 [.sl 4 [],.int .i64 v,.fn 144 [] []] (qe3 [] v):=by
 refine qd c0z (by simp) (by simp only [go_sem]) rfl fun hw=>?_
 rw [qf1]
 repeat' (first | refine vs_ ?_ | ((first | refine vr_ ?_ | (refine cs_ ?_ ?_<;>intro hc) | refine cj_ ?_ | simp (disch:=omega) only [encs_getN,qb])<;>(try refine ev_ ?_)) | with_reducible exact ti_)
 refine qi (S:=Unit) (fun _=>True) (fun _=>(⟨[(0,.sl 4 []),(1,.int .i64 v),(2,.fn 144 [] []),(8,.int .i64 0),(9,.int .i64 0),(10,.int .i64 0)],[]⟩,[])) (fun _=>0) ?_ fun x hx=>?_
 ·refine qf () [] trivial rfl (by simp) ?_ ?_ ?_<;>(try refine ev_ ?_)<;>(try with_reducible exact ti_)<;>(try simp (disch:=omega) only [qb,and_true,true_and])
 ·repeat' (first | refine vs_ ?_ | ((first | refine vr_ ?_ | (refine cs_ ?_ ?_<;>intro hc) | refine cj_ ?_ | simp (disch:=omega) only [encs_getN,qb])<;>(try refine ev_ ?_)) | with_reducible exact ti_)
  ·exact absurd hc (by omega)
  ·exact ⟨rfl,rfl⟩
def subH (s:List Pr):List Ent:=if s = [] then [.blk [.nils]] else [.blk [.row 1 s.length],qcf s]
theorem qn0:subH [] = [.blk [.nils]]:=rfl
theorem qte {s:List Pr} (h:s≠[]):subH s = [.blk [.row 1 s.length],qcf s]:=by rw [subH,if_neg h]
abbrev subE (s:List Pr):Ent:=bun (subH s)
theorem qlk {Q:List Ent->VO->Prop} {H':List Ent} {r:AV} (h0:ent H' 0 = .blk [.nils]) (hl:0 < H'.length) (hr:r.bd 0 = true) (h:Q [subE []] (.val r)):qh2 Q H' (.val r) :=
 ⟨[.blk [.nils]],[0],rfl,by simp,by simp,⟨⟨hl,rfl,by rw [h0];rfl⟩,trivial⟩,qoa (Nat.zero_le _) _ hr,h⟩
theorem qem {Q:List Ent->VO->Prop} {H':List Ent} {s:List Pr} {r:AV} (k:Nat) (hs:s≠[]) (h0:ent H' 0 = .blk [.row k s.length]) (h1:ent H' k = qcf s) (hk:0 < k) (hl:k < H'.length) (hr:r.bd 0 = true) (h:Q [subE s] (.val r)):qh2 Q H' (.val r) :=
 ⟨[.blk [.row 1 s.length],qcf s],[0,k],rfl,by simp,by simp;omega,⟨⟨by omega,rfl,by rw [h0];rfl⟩,⟨hl,qh5 s 2,by rw [h1];simp only [qcf,Ent.ren,qkp]⟩,trivial⟩,qoa (Nat.zero_le _) _ hr,by rwa [subE,qte hs] at h⟩
theorem qfz (σ:Nat->Nat) (s:List Pr):(qcf s).ren σ = qcf s:=by simp only [qcf,Ent.ren,qkp]
theorem qio:∀ {H:List Ent} {i:Nat} {e:Ent},ent H i = e->i < H.length->H.set i e = H
 | [],i,e,_,hl=>by simp at hl
 | x :: r,0,e,h,_=>by rw [← h];rfl
 | x :: r, i + 1, e, h, hl => by
   have h':ent r i = e:=h
   rw [List.set_cons_succ,qio h' (by simpa using hl)]
theorem q9u (v:Int):VCalls Tryz.prog 133 [.blk [.nils]] [.ptr 0 0,.int .i64 v] fun H' o=>H' = [.blk [.nils]]∧o = .val (qe3 [] v):=by
 refine qt c0ba 1 (by simp) (by simp) ?_
 rw [qf1]
 repeat' (first | refine vs_ ?_ | ((first | refine vr_ ?_ | refine qa (qbpa _) fun _=>?_ | simp (disch:=omega) only [qf1] | (refine cs_ ?_ ?_<;>intro hc) | refine cj_ ?_ | fail)<;>(try refine ev_ ?_)) | with_reducible exact ti_)
theorem qbrp {s:List Pr} (ho:risR s) (hl:s.length≤100000) (v:Int):VCalls Tryz.prog 133 [.blk [.row 1 s.length],qcf s] [.ptr 0 0,.int .i64 v] fun H' o=>H' = [.blk [.row 1 s.length],qcf s]∧o = .val (qe3 s v):=by
 refine qt c0ba 2 (by simp) (by simp [qcf,Ent.bd,qeu]) ?_
 rw [qe3]
 repeat' (first | refine vs_ ?_ | ((first | refine vr_ ?_ | refine qce 1 (qbie ho hl v) ?_ (qh5 s 0) (qh5 s 0) | simp (disch:=omega) only [qe3] | (refine cs_ ?_ ?_<;>intro hc) | refine cj_ ?_ | fail)<;>(try refine ev_ ?_)) | with_reducible exact ti_)
section
variable {H:List Ent} {Q:List Ent->VO->Prop} {K:Md->AV->List Ent->Prop} {raws:List AV} {s:List Pr}
theorem qsc (v:Int) (hq:Q H (.val (qe3 [] v))) (h0:ent H 0 = .blk [.nils]:=by rfl) (hl':0 < H.length:=by simp):VApp Tryz.prog H (.fn 133 [] []) [.ptr 0 0,.int .i64 v] Q:=by
 refine qcz ?_
 rw [List.nil_append,List.append_nil]
 refine qcc [0] (q9u v) (by simp) ⟨⟨by omega,rfl,h0⟩,trivial⟩ rfl rfl fun H1 o ho=>?_
 obtain ⟨rfl,rfl⟩:=ho
 have:qkb H [0] [.blk [.nils]] = H:=by
  show (H.set 0 (.blk [.nils])) ++ [] = H
  rw [List.append_nil,qio h0 hl']
 rw [this]
 exact hq
theorem qht (ho:risR s) (hl:s.length≤100000) (v:Int) (hq:Q H (.val (qe3 s v))) (h0:ent H 0 = .blk [.row 1 s.length]:=by rfl) (h1:ent H 1 = qcf s:=by rfl) (hl':1 < H.length:=by simp):VApp Tryz.prog H (.fn 133 [] []) [.ptr 0 0,.int .i64 v] Q:=by
 refine qcz ?_
 rw [List.nil_append,List.append_nil]
 refine qcc [0,1] (qbrp ho hl v) (by simp) ⟨⟨by omega,rfl,h0⟩,⟨hl',qh5 s 2,by rw [h1,qfz]⟩,trivial⟩ rfl rfl fun H1 o ho=>?_
 obtain ⟨rfl,rfl⟩:=ho
 have:qkb H [0,1] [.blk [.row 1 s.length],qcf s] = H:=by
  show ((H.set 0 (.blk [.row 1 s.length])).set 1 ((qcf s).ren _)) ++ [] = H
  rw [List.append_nil,qfz,qio h0 (by omega),qio h1 hl']
 rw [this]
 exact hq
end
set_option maxRecDepth 4000

def getV (s:List Pr) (v:Int):AV:=.tup [encY ((qbm v s).getD Y0),.bool (qbm v s).isSome]
theorem qbhb (k:Nat) (s:List Pr) (v:Int):(getV s v).bd k = true:=by simp only [getV,AV.bd,AV.bds,qb7,Bool.and_true,Bool.true_and]
theorem qblu (v:Int):VCalls Tryz.prog 136 [.blk [.nils]] [.ptr 0 0,.int .i64 v] (qh2 fun H' o=>H' = [subE []]∧o = .val (getV [] v)):=by
 refine qt c0y 1 (by simp) (by simp) ?_
 repeat' (first | refine vs_ ?_ | ((first | refine vr_ ?_ | refine qsc v ?_ | simp (disch:=omega) only [qf1] | (refine cs_ ?_ ?_<;>intro hc) | refine cj_ ?_ | simp (disch:=omega) only [encs_getN,qb])<;>(try refine ev_ ?_)) | with_reducible exact ti_)
 all_goals exact qlk rfl (by simp) rfl ⟨rfl,rfl⟩
theorem qbxi {s:List Pr} (hs:s≠[]) (ho:risR s) (hl:s.length≤100000) (v:Int):VCalls Tryz.prog 136 [.blk [.row 1 s.length],qcf s] [.ptr 0 0,.int .i64 v] (qh2 fun H' o=>H' = [subE s]∧o = .val (getV s v)):=by
 refine qt c0y 2 (by simp) (by simp [qcf,Ent.bd,qeu]) ?_
 have hlk:=qj0 (v:=v) ho
 have hf:qe3 s v = .tup [.int .i64 (ahdR v s),.bool (qbm v s).isSome]:=rfl
 by_cases hin:ahdR v s < s.length∧(s.getD (ahdR v s) R0).v = v
 ·rw [if_pos hin] at hlk
  have hp:=qgd hin.1
  have hi:=hin.1
  rw [hlk,Option.isSome_some] at hf
  have hg:getV s v = .tup [encY (s.getD (ahdR v s) R0).ty,.bool true]:=by rw [getV,hlk];rfl
  rw [hg]
  clear hin
  repeat' (first | refine vs_ ?_ | ((first | refine vr_ ?_ | fail)<;>(try simp only [hp,go_sem,↓reduceIte])) | ((first | simp (disch:=omega) only [hf] | simp (disch:=omega) only [hp] | (refine cs_ ?_ ?_<;>intro hc) | refine cj_ ?_ | simp (disch:=omega) only [encs_getN,qb] | refine qht ho hl v ?_)<;>(try refine ev_ ?_)) | with_reducible exact ti_)
  all_goals exact qem 1 hs rfl rfl (by simp) (by simp) (by first | rfl | simp only [AV.bd,AV.bds,qb7,Bool.and_true]) ⟨rfl,rfl⟩
 ·rw [if_neg hin] at hlk
  rw [hlk,Option.isSome_none] at hf
  have hg:getV s v = .tup [encY Y0,.bool false]:=by rw [getV,hlk];rfl
  rw [hg]
  repeat' (first | refine vs_ ?_ | ((first | refine vr_ ?_ | refine qht ho hl v ?_ | simp (disch:=omega) only [hf] | (refine cs_ ?_ ?_<;>intro hc) | refine cj_ ?_ | simp (disch:=omega) only [encs_getN,qb])<;>(try refine ev_ ?_)) | with_reducible exact ti_)
  all_goals exact qem 1 hs rfl rfl (by simp) (by simp) (by first | rfl | simp only [AV.bd,AV.bds,qb7,Bool.and_true]) ⟨rfl,rfl⟩
theorem qzy {s:List Pr} (ho:risR s) (hl:s.length≤100000) (v:Int):VM Tryz.prog 136 (subE s) (subE s) [.ptr 0 0,.int .i64 v] (getV s v):=by
 by_cases hs:s = []
 ·subst hs
  exact qwf (by rw [qn0];exact qblu v) rfl
 ·exact qwf (by have:=qbxi hs ho hl v;rwa [← qte hs] at this) rfl
set_option maxRecDepth 4000

abbrev insF:FuncId:=134
theorem qlx (p:Pr):(encR p).cells.length = 4∧(encR p).flat:=⟨rfl,.inl ⟨rfl,rfl⟩⟩
theorem qxh (l:List Pr):∀ e∈qdb l,e.flat:=fun e he=>by
 obtain ⟨p,_,rfl⟩:=List.mem_map.1 he
 exact (qlx p).2
section
variable {H:List Ent} {K:Md->AV->List Ent->Prop} {args raws:List AV} {s:List Pr} {p:Pr}
theorem qbjw (j:Nat) {i:Nat} (hi:i≤s.length) (hl:s.length≤100000) (h1:ent H j = qcf s):Gro Tryz.prog H (.fn insF [] []) [.row j s.length,.int .i64 i,.lit 4 [encR p]] (some (j,qcf s)) (qcf (s.take i ++ p :: s.drop i)) (s.length + 1):=by
 refine ⟨fun q hq=>by cases hq;exact ⟨by simp,h1⟩,fun H₀ h0=>?_⟩
 have h0:ent H₀ j = qcf s:=h0 _ rfl
 have hl':=(List.getElem?_eq_some_iff.1 (qz h0 (by simp))).1
 have hv:=q86 (es:=qdb s) (x:=encR p) (i:=i) (by rw [qhh];exact hi) (by rw [qhh];omega) (qlx p) (by simp only [AV.bds,qij,qeu,Bool.and_true]) (qxh s)
 rw [qhh] at hv
 refine qcz ?_
 rw [List.nil_append,List.append_nil]
 refine qcc [j] hv (by simp) ⟨⟨hl',qh5 s 1,by rw [h0,qfz]⟩,trivial⟩ (by simp [AV.bds,AV.bd,qij]) (by simp only [AV.rens,AV.ren,qot];rfl) fun H1 o ho=>?_
 obtain ⟨rfl,rfl⟩:=ho
 have he:qdb (s.take i ++ p :: s.drop i) = (qdb s).take i ++ encR p :: (qdb s).drop i:=by simp [qdb]
 refine ⟨?_,?_⟩
 ·rw [← he]
  show (H₀.set j .dead) ++ [(qcf (s.take i ++ p :: s.drop i)).ren _] = (H₀.set j .dead) ++ [_]
  rw [qfz]
 ·show VO.val (.row (H₀.length + (1 - 1)) _) = _
  simp
theorem qbp8:Gro Tryz.prog H (.fn insF [] []) [.nils,.int .i64 0,.lit 4 [encR p]] none (qcf [p]) 1:=by
 refine ⟨fun q hq=>(by cases hq),fun H₀ h0=>?_⟩
 refine qcz ?_
 rw [List.nil_append,List.append_nil]
 refine qcc [] (qp5 (qlx p)) (by simp) trivial (by simp [AV.bds,AV.bd,qij]) (by simp only [AV.rens,AV.ren,qot]) fun H1 o ho=>?_
 obtain ⟨rfl,rfl⟩:=ho
 refine ⟨?_,?_⟩
 ·show H₀ ++ [(qcf [p]).ren _] = H₀ ++ [_]
  rw [qfz]
 ·show VO.val (.row (H₀.length + (0 - 0)) _) = _
  simp
theorem qb1r (j:Nat) {i:Nat} (hi:i≤s.length) (hl:s.length≤100000) (hq:K (.grow (some (j,qcf s)) (qcf (s.take i ++ p :: s.drop i)) (s.length + 1)) (.row H.length (s.length + 1)) (H.set j .dead ++ [qcf (s.take i ++ p :: s.drop i)])) (h1:ent H j = qcf s:=by rfl) (hr:raws = [.row j s.length,.int .i64 i,.lit 4 [encR p]]:=by rfl) :
 DApp Tryz.prog H (.fn insF [] []) args raws K:=by
 subst hr
 exact .inr (.inr (.inr (.inl ⟨_,_,_,qbjw j hi hl h1,hq⟩)))
theorem qb0n (hq:K (.grow none (qcf [p]) 1) (.row H.length 1) (H ++ [qcf [p]])) (hr:raws = [.nils,.int .i64 0,.lit 4 [encR p]]:=by rfl):DApp Tryz.prog H (.fn insF [] []) args raws K:=by
 subst hr
 exact .inr (.inr (.inr (.inl ⟨_,_,_,qbp8,hq⟩)))
end
theorem qu9 {s:List Pr} {v:Int} {t:Ty} (h:qv t = false):setR s v t = (s,1):=by rw [setR,if_neg (by simp [h])]
theorem q89 {s:List Pr} {v:Int} {t u:Ty} (h:qv t = true) (hl:qbm v s = some u):setR s v t = (s,6):=by rw [setR,if_pos h,hl]
theorem qoz {s:List Pr} {v:Int} {t:Ty} (h:qv t = true) (hl:qbm v s = none):setR s v t = (insR v t s,0):=by rw [setR,if_pos h,hl]
theorem qbtk (v:Int) {t:Ty} (h1:szY t≤20000) (h2:dpY t≤300):VCalls Tryz.prog 112 [.blk [.nils]] [.ptr 0 0,.int .i64 v,encY t] (qh2 fun H' o=>H' = [subE (setR [] v t).1]∧o = .val (.int .i64 (setR [] v t).2)):=by
 have hLg:=qdc h1 h2
 have hcp:=qfl t (by omega)
 by_cases hlg:qv t = true
 ·rw [qoz hlg rfl]
  rw [hlg] at hLg
  refine qt c0x 3 (by simp) (by simp) ?_
  repeat' (first | refine vs_ ?_ | ((first | refine vr_ ?_ | refine qa hLg fun _=>?_ | refine qa hcp fun _=>?_ | refine qsc v ?_ | refine qb0n (p:=⟨v,t⟩) ?_ | refine qc hLg ?_ | refine qc hcp ?_ | simp (disch:=omega) only [qf1] | (refine cs_ ?_ ?_<;>intro hc) | refine cj_ ?_ | fail)<;>(try refine ev_ ?_)) | with_reducible exact ti_)
  all_goals exact qem (s:=insR v t []) 2 (by simp [qo8]) rfl rfl (by simp) (by simp) rfl ⟨rfl,rfl⟩
 ·have hlg:qv t = false:=by simpa using hlg
  rw [qu9 hlg]
  rw [hlg] at hLg
  refine qt c0x 1 (by simp) (by simp) ?_
  repeat' (first | refine vs_ ?_ | ((first | refine vr_ ?_ | refine qa hLg fun _=>?_ | refine qc hLg ?_ | (refine cs_ ?_ ?_<;>intro hc) | refine cj_ ?_ | fail)<;>(try refine ev_ ?_)) | with_reducible exact ti_)
  all_goals exact qlk rfl (by simp) rfl ⟨rfl,rfl⟩
theorem qbw4 {s:List Pr} (hs:s≠[]) (ho:risR s) (hl:s.length≤100000) (v:Int) {t:Ty} (h1:szY t≤20000) (h2:dpY t≤300):VCalls Tryz.prog 112 [.blk [.row 1 s.length],qcf s] [.ptr 0 0,.int .i64 v,encY t] (qh2 fun H' o=>H' = [subE (setR s v t).1]∧o = .val (.int .i64 (setR s v t).2)):=by
 have hLg:=qdc h1 h2
 have hcp:=qfl t (by omega)
 have hA:=qo3 v s
 by_cases hlg:qv t = true
 ·cases hlk:qbm v s with
  | some u =>
    have hf:qe3 s v = .tup [.int .i64 (ahdR v s),.bool true]:=by rw [qe3,hlk];rfl
    rw [q89 hlg hlk]
    rw [hlg] at hLg
    refine qt c0x 2 (by simp) (by simp) ?_
    repeat' (first | refine vs_ ?_ | ((first | refine vr_ ?_ | refine qa hLg fun _=>?_ | refine qht ho hl v ?_ | refine qc hLg ?_ | simp (disch:=omega) only [hf] | (refine cs_ ?_ ?_<;>intro hc) | refine cj_ ?_ | fail)<;>(try refine ev_ ?_)) | with_reducible exact ti_)
    all_goals exact qem 1 hs rfl rfl (by simp) (by simp) rfl ⟨rfl,rfl⟩
  | none =>
    have hf:qe3 s v = .tup [.int .i64 (ahdR v s),.bool false]:=by rw [qe3,hlk];rfl
    rw [qoz hlg hlk]
    rw [hlg] at hLg
    refine qt c0x 4 (by simp) (by simp) ?_
    repeat' (first | refine vs_ ?_ | ((first | refine vr_ ?_ | refine qa hLg fun _=>?_ | refine qa hcp fun _=>?_ | refine qht ho hl v ?_ | refine qb1r 1 (p:=⟨v,t⟩) hA hl ?_ | refine qc hLg ?_ | refine qc hcp ?_ | simp (disch:=omega) only [hf] | (refine cs_ ?_ ?_<;>intro hc) | refine cj_ ?_ | fail)<;>(try refine ev_ ?_)) | with_reducible exact ti_)
    all_goals exact qem (s:=insR v t s) 3 (by simp [insR]) (by rw [qwg];rfl) rfl (by simp) (by simp) rfl ⟨rfl,rfl⟩
 ·have hlg:qv t = false:=by simpa using hlg
  rw [qu9 hlg]
  rw [hlg] at hLg
  refine qt c0x 2 (by simp) (by simp) ?_
  repeat' (first | refine vs_ ?_ | ((first | refine vr_ ?_ | refine qa hLg fun _=>?_ | refine qc hLg ?_ | (refine cs_ ?_ ?_<;>intro hc) | refine cj_ ?_ | fail)<;>(try refine ev_ ?_)) | with_reducible exact ti_)
  all_goals exact qem 1 hs rfl rfl (by simp) (by simp) rfl ⟨rfl,rfl⟩
theorem qnn {s:List Pr} (ho:risR s) (hl:s.length≤100000) (v:Int) {t:Ty} (h1:szY t≤20000) (h2:dpY t≤300):VM Tryz.prog 112 (subE s) (subE (setR s v t).1) [.ptr 0 0,.int .i64 v,encY t] (.int .i64 (setR s v t).2):=by
 by_cases hs:s = []
 ·subst hs
  exact qwf (by rw [qn0];exact qbtk v h1 h2) (by simp [AV.bds,AV.bd,qb7])
 ·exact qwf (by have:=qbw4 hs ho hl v h1 h2;rwa [← qte hs] at this) (by simp [AV.bds,AV.bd,qb7])
end Go.Proofs.YtgglaabljlhliaaGreat
