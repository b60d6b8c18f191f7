/- Texts of this proof, joined. -/
import Derived.Test.YtefcfdejmfgbpaaMay
import Derived.Test.YtefcfdejmfgbpaaMbh
set_option linter.unusedVariables false
set_option linter.unusedSimpArgs false

/- the reference's substitutions: New, size, put, Apply -/
namespace Go.Proofs.Ytefcfdejmfgbpaa
open Go Go.RowKit Go.V

theorem qlx:∀ (l s:List Pr) (p:Pr),addR s (l ++ [p]) = (setR (addR s l) p.v p.ty).1
 | [],s,p=>rfl
 | x :: l,s,p=>by rw [List.cons_append,addR,addR,qlx l]


set_option maxRecDepth 4000

theorem qqd {l:List Pr} {i:Nat} (h:i < l.length):l.take (i + 1) = l.take i ++ [l.getD i R0]:=by
 rw [List.take_add_one,List.getD_eq_getElem?_getD,List.getElem?_eq_getElem h];rfl
def smlR (l:List Pr):Prop:=∀ p∈l,szY p.ty≤20000∧dpY p.ty≤300
theorem qle {l:List Pr} (hs:smlR l) (hl:l.length≤100000):VCalls Try.prog 6 [] [.sl 4 (qbq l)] fun H' o=>H' = [subE (newR l)]∧o = .val (.ptr 0 0):=by
 refine qh c0ca 1 (by simp) (by simp) ?_
 repeat' (first | refine vs_ ?_ | ((first | refine vr_ ?_ | (refine cs_ ?_ ?_<;>intro hc) | refine cj_ ?_ | simp (disch:=omega) only [encs_getN,qc])<;>(try refine ev_ ?_)) | with_reducible exact ti_)
 refine q2g 0 rfl rfl ?_
 refine qbi (S:=Nat) (fun i=>i≤l.length) (fun i=>(⟨[(3,.ptr 0 0),(8,.sl 4 (qbq l)),(9,.int .i64 l.length),(10,.int .i64 i)],[]⟩,[subE (newR (l.take i))])) (fun i=>l.length - i) ?_ fun i hi=>?_
 ·refine qu 0 [0] (Nat.zero_le _) rfl (by simp) ?_ ?_ ?_<;>simp only [List.take_zero,newR,addR,qkm]<;>(try refine ev_ ?_)<;>(try with_reducible exact ti_)<;>(try simp (disch:=omega) only [qc,and_true,true_and])
  all_goals rfl
 ·by_cases hlt:i < l.length
  ·have hok:=qks (l.take i)
   have hln:=qp6 (l.take i)
   rw [List.length_take] at hln
   have hm:=hs _ (qpi hlt)
   have hn:newR (l.take (i + 1)) = (setR (newR (l.take i)) (l.getD i R0).v (l.getD i R0).ty).1:=by rw [qqd hlt,newR,qlx];rfl
   have hp:=qc9 hlt
   repeat' (first | refine vs_ ?_ | ((first | refine vr_ ?_ | fail)<;>(try simp (disch:=first | omega | (simp only [List.length_set,List.length_append,List.length_cons,List.length_nil];done) | (simp only [List.length_set,List.length_append,List.length_cons,List.length_nil];omega)) only [hp,qc,go_sem,↓reduceIte])) | ((first | simp (disch:=omega) only [hp] | (refine cs_ ?_ ?_<;>intro hc) | refine cj_ ?_ | simp (disch:=omega) only [encs_getN,qc] | refine qbj 0 (qki hok.1 (by omega) _ hm.1 hm.2) ?_)<;>(try refine ev_ ?_)) | with_reducible exact ti_)
   ·refine qu (i + 1) [0] ⟨by omega,by omega⟩ rfl (by simp) ?_ ?_ ?_<;>simp only [hn]<;>(try refine ev_ ?_)<;>(try with_reducible exact ti_)<;>(try simp (disch:=omega) only [qc,and_true,true_and])
    all_goals rw [qw (by omega) (by omega),Int.natCast_add];rfl
   ·exfalso;omega
  ·have hie:i = l.length:=by omega
   subst hie
   rw [List.take_length]
   repeat' (first | refine vs_ ?_ | ((first | refine vr_ ?_ | (refine cs_ ?_ ?_<;>intro hc) | refine cj_ ?_ | simp (disch:=omega) only [encs_getN,qc])<;>(try refine ev_ ?_)) | with_reducible exact ti_)
   all_goals (exfalso;omega)
set_option maxRecDepth 4000

theorem qtn {R:World->(Nat->Nat->Prop)->Gh->Prop} {b:Bool} {s:List Pr} (hG:∀ v,VM Try.prog 12 (.cus R) (.cus R) [svA b 0,.int .i64 v] (getV s v)) (hs:okS s) {t:Ty} (h1:szY t≤20000) (h2:dpY t≤300) :
 VM Try.prog 7 (.cus R) (.cus R) [svA b 0,encY t] (typA (appR s t)):=by
 refine qh c0bz 1 (by simp) (by simp) ?_
 have hLg:=qcc h1 h2
 rw [← q6w hs]
 by_cases hlg:qi t = true
 ·obtain ⟨q1,q2,q3⟩:=(qz t).1 hlg
  have hput:=q2t hG (q7i hs) t (qcp t q3) h1 4096 1 (by omega) (by omega) (by omega) (by omega)
  rw [hlg] at hLg
  by_cases hn:(bput s t 4096 1).1 < 0
  ·have hnd:decide ((bput s t 4096 1).1 < 0) = true:=decide_eq_true hn
   rw [appP,if_pos hlg,if_pos hn]
   repeat' (first | refine vs_ ?_ | ((first | refine vr_ ?_ | fail)<;>(try simp only [hnd,go_sem,↓reduceIte])) | ((first | (refine cs_ ?_ ?_<;>intro hc) | refine cj_ ?_ | fail | refine qa hLg fun _=>?_ | refine qnd 3 0 hput (by simp) ?_)<;>(try refine ev_ ?_)) | with_reducible exact ti_)
   all_goals rfl
  ·have hnd:decide ((bput s t 4096 1).1 < 0) = false:=decide_eq_false hn
   rw [appP,if_pos hlg,if_neg hn]
   repeat' (first | refine vs_ ?_ | ((first | refine vr_ ?_ | fail)<;>(try simp only [hnd,go_sem,↓reduceIte])) | ((first | (refine cs_ ?_ ?_<;>intro hc) | refine cj_ ?_ | fail | refine qa hLg fun _=>?_ | refine qnd 3 0 hput (by simp) ?_)<;>(try refine ev_ ?_)) | with_reducible exact ti_)
   all_goals rfl
 ·rw [appP,if_neg hlg]
  have hlg:qi t = false:=by simpa using hlg
  rw [hlg] at hLg
  repeat' (first | refine vs_ ?_ | ((first | refine vr_ ?_ | refine qa hLg fun _=>?_ | (refine cs_ ?_ ?_<;>intro hc) | refine cj_ ?_ | fail)<;>(try refine ev_ ?_)) | with_reducible exact ti_)
  all_goals rfl


section
variable {P:Program} {f:FuncId} {e:Ent} {L:List Ent} {args:List AV} {Q:List Ent->VO->Prop}
theorem qk8 (h:VCalls P f [] args fun H' o=>H' = [e]∧o = .val (.ptr 0 0)) (hb:e.bd 0 = true) (ha:AV.bds 0 args = true) (hq:Q (L ++ [e]) (.val (.ptr L.length 0))):VApp P L (.fn f [] []) args Q:=by
 refine qxb h ha fun H1 o ho=>?_
 obtain ⟨rfl,rfl⟩:=ho
 have e1:qiu L [] [e] = L ++ [e]:=by
  show L ++ [e.ren _] = _
  rw [Ent.ren_bd0 hb]
 rw [e1]
 exact hq
end
theorem qo9:VCalls Try.prog 6 [] [.sl 4 []] fun H' o=>H' = [subE []]∧o = .val (.ptr 0 0):=qle (l:=[]) (fun p hp=>by simp at hp) (by simp)

def newQ (L:List Ent) (p:List Pr×Int) (H':List Ent) (o:VO):Prop :=
 if p.2 = 0 then H' = L ++ [subE p.1]∧o = .val (.tup [.ptr L.length 0,.int .i64 0]) else H' = L∧o = .val (.tup [.nilp,.int .i64 p.2])


section
variable {L:List Ent} {Q:List Ent->VO->Prop} {s t:List Pr}
theorem q7q {l:List Pr} (hs:smlR l) (hl:l.length≤100000) (hq:Q (L ++ [subE (newR l)]) (.val (.ptr L.length 0))):VApp Try.prog L (.fn 6 [] []) [.sl 4 (qbq l)] Q :=
 qk8 (qle hs hl) rfl (by simp only [AV.bds,AV.bd,qcz,Bool.and_true]) hq
theorem qkz {f:FuncId} {e e':Ent} {rest:List AV} {r:AV} (i:Nat) (h:VM Try.prog f e e' (.ptr 0 0 :: rest) r) (hrest:AV.bds 0 rest = true) (hr:r.bd 0 = true) (hq:Q (L.set i e') (.val r)) (hb:e.bd 0 = true:=by rfl) (hb':e'.bd 0 = true:=by rfl) (hi:i < L.length:=by simp) (he:ent L i = e:=by rfl) :
 VApp Try.prog L (.fn f [] []) (.ptr i 0 :: rest) Q:=by
 refine qbj i h hq hb hb' hi he hr ?_ ?_
 ·rw [List.append_nil,AV.rens,qm (m:=0) (fun j hj=>by omega) rest hrest];rfl
 ·rw [AV.bds,Bool.and_eq_true]
  exact ⟨rfl,qb4 (Nat.zero_le _) _ hrest⟩
theorem qbfg {l:List Pr} (hs:smlR l) (hl:l.length≤100000) (e:newR l = s) (hq:Q (L ++ [subE s]) (.val (.ptr L.length 0))):VApp Try.prog L (.fn 6 [] []) [.sl 4 (qbq l)] Q:=by
 subst e;exact q7q hs hl hq
theorem qyp (hs:okS s) (hl:s.length≤100000) {ty:Ty} (q1:szY ty≤20000) (q2:dpY ty≤300):VM Try.prog 7 (subE s) (subE s) [.ptr 0 0,encY ty] (typA (appR s ty)) :=
 qtn (b:=true) (R:=bunR (subH s)) (fun v=>qk3 hs.1 hl v) hs q1 q2
end
def wT:Ty:=⟨[84],0,[]⟩
def wU:Ty:=⟨[85],0,[]⟩
def wV:Ty:=⟨[86],0,[]⟩
def wB:Ty:=⟨[],1,[]⟩
def wR:Ty:=⟨[45,62],0,[wT,wB]⟩
def S1:List Pr:=[⟨0,wT⟩]
def S2:List Pr:=[⟨0,wT⟩,⟨1,Y0⟩]
def S3:List Pr:=[⟨0,wV⟩]
def S4:List Pr:=[⟨0,wT⟩,⟨1,wV⟩]
theorem w1:newR [⟨0,wT⟩,⟨0,wU⟩] = S1:=by rfl
theorem w3:newR [⟨0,wV⟩] = S3:=by rfl
theorem S1_ok:okS S1:=w1 ▸ qks _
theorem qbga:okS S3:=w3 ▸ qks _
theorem w2:setR S1 1 Y0 = (S2,0):=by rfl
theorem qbf9:okS S2:=by have:=qn1 S1_ok 1 Y0;rwa [w2] at this
theorem w4:behR S2 S3 = (S4,0):=by rfl
theorem S4_ok:okS S4:=by have:=q41 qbf9 qbga;rwa [w4] at this
theorem k1:VM Try.prog 14 (subE S1) (subE S1) [.ptr 0 0,.int .i64 0,encY wT] (.int .i64 6):=qki S1_ok.1 (by decide) 0 (t:=wT) (by decide) (by decide)
theorem k2:VM Try.prog 14 (subE S1) (subE S2) [.ptr 0 0,.int .i64 1,encY Y0] (.int .i64 0):=qki S1_ok.1 (by decide) 1 (t:=Y0) (by decide) (by decide)
theorem k4:VM Try.prog 12 (subE S4) (subE S4) [.ptr 0 0,.int .i64 1] (.tup [encY wV,.bool true]):=qk3 S4_ok.1 (by decide) 1
theorem k7:qo Try.prog 33 [encY wR] (.str [84,32,45,62,32,98]):=qjz (t:=wR) (by decide) (by decide) (by decide)
end Go.Proofs.Ytefcfdejmfgbpaa
