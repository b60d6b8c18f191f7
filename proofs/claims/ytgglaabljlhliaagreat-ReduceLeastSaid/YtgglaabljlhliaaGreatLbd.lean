/- Texts of this proof, joined. -/
import Derived.Test.YtgglaabljlhliaaGreatLbb
import Derived.Test.YtgglaabljlhliaaGreatLbc
set_option linter.unusedVariables false
set_option linter.unusedSimpArgs false

/- substitutions: found, got -/
set_option maxRecDepth 4000
namespace Go.Proofs.YtgglaabljlhliaaGreat
open Go Go.RowKit Go.V

theorem qgg (v:Int):qfn [] v = .tup [.int .i64 0,.bool false]:=rfl
theorem qbtx (v:Int):qk Tryz.prog 143 [.sl 4 [],.int .i64 v,.fn 144 [] []] (qfn [] v):=by
 refine qd c0z (by simp) (by simp only [go_sem]) rfl fun hw=>?_
 rw [qgg]
 repeat' (first | refine vs_ ?_ | ((first | refine vr_ ?_ | (refine cs_ ?_ ?_<;>intro hc) | refine cj_ ?_ | simp (disch:=omega) only [encs_getN,qb])<;>(try refine ev_ ?_)) | with_reducible exact ti_)
 refine qj (S:=Unit) (fun _=>True) (fun _=>(⟨[(0,.sl 4 []),(1,.int .i64 v),(2,.fn 144 [] []),(8,.int .i64 0),(9,.int .i64 0),(10,.int .i64 0)],[]⟩,[])) (fun _=>0) ?_ fun x hx=>?_
 ·refine qf () [] trivial rfl (by simp) ?_ ?_ ?_<;>(try refine ev_ ?_)<;>(try with_reducible exact ti_)<;>(try simp (disch:=omega) only [qb,and_true,true_and])
 ·repeat' (first | refine vs_ ?_ | ((first | refine vr_ ?_ | (refine cs_ ?_ ?_<;>intro hc) | refine cj_ ?_ | simp (disch:=omega) only [encs_getN,qb])<;>(try refine ev_ ?_)) | with_reducible exact ti_)
  ·exact absurd hc (by omega)
  ·exact ⟨rfl,rfl⟩
def subH (s:List Pr):List Ent:=if s = [] then [.blk [.nils]] else [.blk [.row 1 s.length],qcl s]
theorem qpo:subH [] = [.blk [.nils]]:=rfl
theorem qug {s:List Pr} (h:s≠[]):subH s = [.blk [.row 1 s.length],qcl s]:=by rw [subH,if_neg h]
abbrev subE (s:List Pr):Ent:=bun (subH s)
theorem qkg {Q:List Ent->VO->Prop} {H':List Ent} {r:AV} (h0:ent H' 0 = .blk [.nils]) (hl:0 < H'.length) (hr:r.bd 0 = true) (h:Q [subE []] (.val r)):qh4 Q H' (.val r) :=
 ⟨[.blk [.nils]],[0],rfl,by simp,by simp,⟨⟨hl,rfl,by rw [h0];rfl⟩,trivial⟩,qpr (Nat.zero_le _) _ hr,h⟩
theorem qes {Q:List Ent->VO->Prop} {H':List Ent} {s:List Pr} {r:AV} (k:Nat) (hs:s≠[]) (h0:ent H' 0 = .blk [.row k s.length]) (h1:ent H' k = qcl s) (hk:0 < k) (hl:k < H'.length) (hr:r.bd 0 = true) (h:Q [subE s] (.val r)):qh4 Q H' (.val r) :=
 ⟨[.blk [.row 1 s.length],qcl s],[0,k],rfl,by simp,by simp;omega,⟨⟨by omega,rfl,by rw [h0];rfl⟩,⟨hl,qho s 2,by rw [h1];simp only [qcl,Ent.ren,qlh]⟩,trivial⟩,qpr (Nat.zero_le _) _ hr,by rwa [subE,qug hs] at h⟩
theorem qfs (σ:Nat->Nat) (s:List Pr):(qcl s).ren σ = qcl s:=by simp only [qcl,Ent.ren,qlh]
theorem qiu:∀ {H:List Ent} {i:Nat} {e:Ent},ent H i = e->i < H.length->H.set i e = H
 | [],i,e,_,hl=>by simp at hl
 | x :: r,0,e,h,_=>by rw [← h];rfl
 | x :: r, i + 1, e, h, hl => by
   have h':ent r i = e:=h
   rw [List.set_cons_succ,qiu h' (by simpa using hl)]
theorem qbdi (v:Int):VCalls Tryz.prog 133 [.blk [.nils]] [.ptr 0 0,.int .i64 v] fun H' o=>H' = [.blk [.nils]]∧o = .val (qfn [] v):=by
 refine qr c0ba 1 (by simp) (by simp) ?_
 rw [qgg]
 repeat' (first | refine vs_ ?_ | ((first | refine vr_ ?_ | refine qa (qbtx _) fun _=>?_ | simp (disch:=omega) only [qgg] | (refine cs_ ?_ ?_<;>intro hc) | refine cj_ ?_ | fail)<;>(try refine ev_ ?_)) | with_reducible exact ti_)
theorem qbw3 {s:List Pr} (ho:risR s) (hl:s.length≤100000) (v:Int):VCalls Tryz.prog 133 [.blk [.row 1 s.length],qcl s] [.ptr 0 0,.int .i64 v] fun H' o=>H' = [.blk [.row 1 s.length],qcl s]∧o = .val (qfn s v):=by
 refine qr c0ba 2 (by simp) (by simp [qcl,Ent.bd,qfe]) ?_
 rw [qfn]
 repeat' (first | refine vs_ ?_ | ((first | refine vr_ ?_ | refine qcc 1 (qbmg ho hl v) ?_ (qho s 0) (qho s 0) | simp (disch:=omega) only [qfn] | (refine cs_ ?_ ?_<;>intro hc) | refine cj_ ?_ | fail)<;>(try refine ev_ ?_)) | with_reducible exact ti_)
section
variable {H:List Ent} {Q:List Ent->VO->Prop} {K:Md->AV->List Ent->Prop} {raws:List AV} {s:List Pr}
theorem qp3 (v:Int) (hq:Q H (.val (qfn [] v))) (h0:ent H 0 = .blk [.nils]:=by rfl) (hl':0 < H.length:=by simp):VApp Tryz.prog H (.fn 133 [] []) [.ptr 0 0,.int .i64 v] Q:=by
 refine qcu ?_
 rw [List.nil_append,List.append_nil]
 refine qb7 [0] (qbdi v) (by simp) ⟨⟨by omega,rfl,h0⟩,trivial⟩ rfl rfl fun H1 o ho=>?_
 obtain ⟨rfl,rfl⟩:=ho
 have:qhy H [0] [.blk [.nils]] = H:=by
  show (H.set 0 (.blk [.nils])) ++ [] = H
  rw [List.append_nil,qiu h0 hl']
 rw [this]
 exact hq
theorem qh1 (ho:risR s) (hl:s.length≤100000) (v:Int) (hq:Q H (.val (qfn s v))) (h0:ent H 0 = .blk [.row 1 s.length]:=by rfl) (h1:ent H 1 = qcl s:=by rfl) (hl':1 < H.length:=by simp):VApp Tryz.prog H (.fn 133 [] []) [.ptr 0 0,.int .i64 v] Q:=by
 refine qcu ?_
 rw [List.nil_append,List.append_nil]
 refine qb7 [0,1] (qbw3 ho hl v) (by simp) ⟨⟨by omega,rfl,h0⟩,⟨hl',qho s 2,by rw [h1,qfs]⟩,trivial⟩ rfl rfl fun H1 o ho=>?_
 obtain ⟨rfl,rfl⟩:=ho
 have:qhy H [0,1] [.blk [.row 1 s.length],qcl s] = H:=by
  show ((H.set 0 (.blk [.row 1 s.length])).set 1 ((qcl s).ren _)) ++ [] = H
  rw [List.append_nil,qfs,qiu h0 (by omega),qiu h1 hl']
 rw [this]
 exact hq
end
set_option maxRecDepth 4000

def getV (s:List Pr) (v:Int):AV:=.tup [encY ((qbm v s).getD Y0),.bool (qbm v s).isSome]
theorem qbm2 (k:Nat) (s:List Pr) (v:Int):(getV s v).bd k = true:=by simp only [getV,AV.bd,AV.bds,qck,Bool.and_true,Bool.true_and]
theorem qbpr (v:Int):VCalls Tryz.prog 136 [.blk [.nils]] [.ptr 0 0,.int .i64 v] (qh4 fun H' o=>H' = [subE []]∧o = .val (getV [] v)):=by
 refine qr c0y 1 (by simp) (by simp) ?_
 repeat' (first | refine vs_ ?_ | ((first | refine vr_ ?_ | refine qp3 v ?_ | simp (disch:=omega) only [qgg] | (refine cs_ ?_ ?_<;>intro hc) | refine cj_ ?_ | simp (disch:=omega) only [encs_getN,qb])<;>(try refine ev_ ?_)) | with_reducible exact ti_)
 all_goals exact qkg rfl (by simp) rfl ⟨rfl,rfl⟩
theorem qby0 {s:List Pr} (hs:s≠[]) (ho:risR s) (hl:s.length≤100000) (v:Int):VCalls Tryz.prog 136 [.blk [.row 1 s.length],qcl s] [.ptr 0 0,.int .i64 v] (qh4 fun H' o=>H' = [subE s]∧o = .val (getV s v)):=by
 refine qr c0y 2 (by simp) (by simp [qcl,Ent.bd,qfe]) ?_
 have hlk:=qke (v:=v) ho
 have hf:qfn s v = .tup [.int .i64 (ahdR v s),.bool (qbm v s).isSome]:=rfl
 by_cases hin:ahdR v s < s.length∧(s.getD (ahdR v s) R0).v = v
 ·rw [if_pos hin] at hlk
  have hp:=qgt hin.1
  have hi:=hin.1
  rw [hlk,Option.isSome_some] at hf
  have hg:getV s v = .tup [encY (s.getD (ahdR v s) R0).ty,.bool true]:=by rw [getV,hlk];rfl
  rw [hg]
  clear hin
  repeat' (first | refine vs_ ?_ | ((first | refine vr_ ?_ | fail)<;>(try simp only [hp,go_sem,↓reduceIte])) | ((first | simp (disch:=omega) only [hf] | simp (disch:=omega) only [hp] | (refine cs_ ?_ ?_<;>intro hc) | refine cj_ ?_ | simp (disch:=omega) only [encs_getN,qb] | refine qh1 ho hl v ?_)<;>(try refine ev_ ?_)) | with_reducible exact ti_)
  all_goals exact qes 1 hs rfl rfl (by simp) (by simp) (by first | rfl | simp only [AV.bd,AV.bds,qck,Bool.and_true]) ⟨rfl,rfl⟩
 ·rw [if_neg hin] at hlk
  rw [hlk,Option.isSome_none] at hf
  have hg:getV s v = .tup [encY Y0,.bool false]:=by rw [getV,hlk];rfl
  rw [hg]
  repeat' (first | refine vs_ ?_ | ((first | refine vr_ ?_ | refine qh1 ho hl v ?_ | simp (disch:=omega) only [hf] | (refine cs_ ?_ ?_<;>intro hc) | refine cj_ ?_ | simp (disch:=omega) only [encs_getN,qb])<;>(try refine ev_ ?_)) | with_reducible exact ti_)
  all_goals exact qes 1 hs rfl rfl (by simp) (by simp) (by first | rfl | simp only [AV.bd,AV.bds,qck,Bool.and_true]) ⟨rfl,rfl⟩
theorem q4k {s:List Pr} (ho:risR s) (hl:s.length≤100000) (v:Int):VM Tryz.prog 136 (subE s) (subE s) [.ptr 0 0,.int .i64 v] (getV s v):=by
 by_cases hs:s = []
 ·subst hs
  exact qv3 (by rw [qpo];exact qbpr v) rfl
 ·exact qv3 (by have:=qby0 hs ho hl v;rwa [← qug hs] at this) rfl
set_option maxRecDepth 4000

abbrev insF:FuncId:=134
theorem qls (p:Pr):(encR p).cells.length = 4∧(encR p).flat:=⟨rfl,.inl ⟨rfl,rfl⟩⟩
theorem qze (l:List Pr):∀ e∈qdi l,e.flat:=fun e he=>by
 obtain ⟨p,_,rfl⟩:=List.mem_map.1 he
 exact (qls p).2
section
variable {H:List Ent} {K:Md->AV->List Ent->Prop} {args raws:List AV} {s:List Pr} {p:Pr}
theorem qbvx (j:Nat) {i:Nat} (hi:i≤s.length) (hl:s.length≤100000) (h1:ent H j = qcl s):Gro Tryz.prog H (.fn insF [] []) [.row j s.length,.int .i64 i,.lit 4 [encR p]] (some (j,qcl s)) (qcl (s.take i ++ p :: s.drop i)) (s.length + 1):=by
 refine ⟨fun q hq=>by cases hq;exact ⟨by simp,h1⟩,fun H₀ h0=>?_⟩
 have h0:ent H₀ j = qcl s:=h0 _ rfl
 have hl':=(List.getElem?_eq_some_iff.1 (q9 h0 (by simp))).1
 have hv:=qbcj (es:=qdi s) (x:=encR p) (i:=i) (by rw [qhr];exact hi) (by rw [qhr];omega) (qls p) (by simp only [AV.bds,qjd,qfe,Bool.and_true]) (qze s)
 rw [qhr] at hv
 refine qcu ?_
 rw [List.nil_append,List.append_nil]
 refine qb7 [j] hv (by simp) ⟨⟨hl',qho s 1,by rw [h0,qfs]⟩,trivial⟩ (by simp [AV.bds,AV.bd,qjd]) (by simp only [AV.rens,AV.ren,qpn];rfl) fun H1 o ho=>?_
 obtain ⟨rfl,rfl⟩:=ho
 have he:qdi (s.take i ++ p :: s.drop i) = (qdi s).take i ++ encR p :: (qdi s).drop i:=by simp [qdi]
 refine ⟨?_,?_⟩
 ·rw [← he]
  show (H₀.set j .dead) ++ [(qcl (s.take i ++ p :: s.drop i)).ren _] = (H₀.set j .dead) ++ [_]
  rw [qfs]
 ·show VO.val (.row (H₀.length + (1 - 1)) _) = _
  simp
theorem qbm7:Gro Tryz.prog H (.fn insF [] []) [.nils,.int .i64 0,.lit 4 [encR p]] none (qcl [p]) 1:=by
 refine ⟨fun q hq=>(by cases hq),fun H₀ h0=>?_⟩
 refine qcu ?_
 rw [List.nil_append,List.append_nil]
 refine qb7 [] (qqu (qls p)) (by simp) trivial (by simp [AV.bds,AV.bd,qjd]) (by simp only [AV.rens,AV.ren,qpn]) fun H1 o ho=>?_
 obtain ⟨rfl,rfl⟩:=ho
 refine ⟨?_,?_⟩
 ·show H₀ ++ [(qcl [p]).ren _] = H₀ ++ [_]
  rw [qfs]
 ·show VO.val (.row (H₀.length + (0 - 0)) _) = _
  simp
theorem qb5x (j:Nat) {i:Nat} (hi:i≤s.length) (hl:s.length≤100000) (hq:K (.grow (some (j,qcl s)) (qcl (s.take i ++ p :: s.drop i)) (s.length + 1)) (.row H.length (s.length + 1)) (H.set j .dead ++ [qcl (s.take i ++ p :: s.drop i)])) (h1:ent H j = qcl s:=by rfl) (hr:raws = [.row j s.length,.int .i64 i,.lit 4 [encR p]]:=by rfl) :
 DApp Tryz.prog H (.fn insF [] []) args raws K:=by
 subst hr
 exact .inr (.inr (.inr (.inl ⟨_,_,_,qbvx j hi hl h1,hq⟩)))
theorem qb4n (hq:K (.grow none (qcl [p]) 1) (.row H.length 1) (H ++ [qcl [p]])) (hr:raws = [.nils,.int .i64 0,.lit 4 [encR p]]:=by rfl):DApp Tryz.prog H (.fn insF [] []) args raws K:=by
 subst hr
 exact .inr (.inr (.inr (.inl ⟨_,_,_,qbm7,hq⟩)))
end
theorem qwf {s:List Pr} {v:Int} {t:Ty} (h:qba t = false):setR s v t = (s,1):=by rw [setR,if_neg (by simp [h])]
theorem q8p {s:List Pr} {v:Int} {t u:Ty} (h:qba t = true) (hl:qbm v s = some u):setR s v t = (s,6):=by rw [setR,if_pos h,hl]
theorem qpm {s:List Pr} {v:Int} {t:Ty} (h:qba t = true) (hl:qbm v s = none):setR s v t = (insR v t s,0):=by rw [setR,if_pos h,hl]
theorem qbtq (v:Int) {t:Ty} (h1:szY t≤20000) (h2:dpY t≤300):VCalls Tryz.prog 112 [.blk [.nils]] [.ptr 0 0,.int .i64 v,encY t] (qh4 fun H' o=>H' = [subE (setR [] v t).1]∧o = .val (.int .i64 (setR [] v t).2)):=by
 have hLg:=qdl h1 h2
 have hcp:=qfr t (by omega)
 by_cases hlg:qba t = true
 ·rw [qpm hlg rfl]
  rw [hlg] at hLg
  refine qr c0x 3 (by simp) (by simp) ?_
  repeat' (first | refine vs_ ?_ | ((first | refine vr_ ?_ | refine qa hLg fun _=>?_ | refine qa hcp fun _=>?_ | refine qp3 v ?_ | refine qb4n (p:=⟨v,t⟩) ?_ | refine qc hLg ?_ | refine qc hcp ?_ | simp (disch:=omega) only [qgg] | (refine cs_ ?_ ?_<;>intro hc) | refine cj_ ?_ | fail)<;>(try refine ev_ ?_)) | with_reducible exact ti_)
  all_goals exact qes (s:=insR v t []) 2 (by simp [qn4]) rfl rfl (by simp) (by simp) rfl ⟨rfl,rfl⟩
 ·have hlg:qba t = false:=by simpa using hlg
  rw [qwf hlg]
  rw [hlg] at hLg
  refine qr c0x 1 (by simp) (by simp) ?_
  repeat' (first | refine vs_ ?_ | ((first | refine vr_ ?_ | refine qa hLg fun _=>?_ | refine qc hLg ?_ | (refine cs_ ?_ ?_<;>intro hc) | refine cj_ ?_ | fail)<;>(try refine ev_ ?_)) | with_reducible exact ti_)
  all_goals exact qkg rfl (by simp) rfl ⟨rfl,rfl⟩
theorem qby5 {s:List Pr} (hs:s≠[]) (ho:risR s) (hl:s.length≤100000) (v:Int) {t:Ty} (h1:szY t≤20000) (h2:dpY t≤300):VCalls Tryz.prog 112 [.blk [.row 1 s.length],qcl s] [.ptr 0 0,.int .i64 v,encY t] (qh4 fun H' o=>H' = [subE (setR s v t).1]∧o = .val (.int .i64 (setR s v t).2)):=by
 have hLg:=qdl h1 h2
 have hcp:=qfr t (by omega)
 have hA:=qof v s
 by_cases hlg:qba t = true
 ·cases hlk:qbm v s with
  | some u =>
    have hf:qfn s v = .tup [.int .i64 (ahdR v s),.bool true]:=by rw [qfn,hlk];rfl
    rw [q8p hlg hlk]
    rw [hlg] at hLg
    refine qr c0x 2 (by simp) (by simp) ?_
    repeat' (first | refine vs_ ?_ | ((first | refine vr_ ?_ | refine qa hLg fun _=>?_ | refine qh1 ho hl v ?_ | refine qc hLg ?_ | simp (disch:=omega) only [hf] | (refine cs_ ?_ ?_<;>intro hc) | refine cj_ ?_ | fail)<;>(try refine ev_ ?_)) | with_reducible exact ti_)
    all_goals exact qes 1 hs rfl rfl (by simp) (by simp) rfl ⟨rfl,rfl⟩
  | none =>
    have hf:qfn s v = .tup [.int .i64 (ahdR v s),.bool false]:=by rw [qfn,hlk];rfl
    rw [qpm hlg hlk]
    rw [hlg] at hLg
    refine qr c0x 4 (by simp) (by simp) ?_
    repeat' (first | refine vs_ ?_ | ((first | refine vr_ ?_ | refine qa hLg fun _=>?_ | refine qa hcp fun _=>?_ | refine qh1 ho hl v ?_ | refine qb5x 1 (p:=⟨v,t⟩) hA hl ?_ | refine qc hLg ?_ | refine qc hcp ?_ | simp (disch:=omega) only [hf] | (refine cs_ ?_ ?_<;>intro hc) | refine cj_ ?_ | fail)<;>(try refine ev_ ?_)) | with_reducible exact ti_)
    all_goals exact qes (s:=insR v t s) 3 (by simp [insR]) (by rw [qxp];rfl) rfl (by simp) (by simp) rfl ⟨rfl,rfl⟩
 ·have hlg:qba t = false:=by simpa using hlg
  rw [qwf hlg]
  rw [hlg] at hLg
  refine qr c0x 2 (by simp) (by simp) ?_
  repeat' (first | refine vs_ ?_ | ((first | refine vr_ ?_ | refine qa hLg fun _=>?_ | refine qc hLg ?_ | (refine cs_ ?_ ?_<;>intro hc) | refine cj_ ?_ | fail)<;>(try refine ev_ ?_)) | with_reducible exact ti_)
  all_goals exact qes 1 hs rfl rfl (by simp) (by simp) rfl ⟨rfl,rfl⟩
theorem qo3 {s:List Pr} (ho:risR s) (hl:s.length≤100000) (v:Int) {t:Ty} (h1:szY t≤20000) (h2:dpY t≤300):VM Tryz.prog 112 (subE s) (subE (setR s v t).1) [.ptr 0 0,.int .i64 v,encY t] (.int .i64 (setR s v t).2):=by
 by_cases hs:s = []
 ·subst hs
  exact qv3 (by rw [qpo];exact qbtq v h1 h2) (by simp [AV.bds,AV.bd,qck])
 ·exact qv3 (by have:=qby5 hs ho hl v h1 h2;rwa [← qug hs] at this) (by simp [AV.bds,AV.bd,qck])
end Go.Proofs.YtgglaabljlhliaaGreat
