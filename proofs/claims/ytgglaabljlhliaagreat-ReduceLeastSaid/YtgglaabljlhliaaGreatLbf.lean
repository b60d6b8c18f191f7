/- Texts of this proof, joined. -/
import Derived.Test.YtgglaabljlhliaaGreatLbe
import Derived.Test.YtgglaabljlhliaaGreatLaz
set_option linter.unusedVariables false
set_option linter.unusedSimpArgs false

/- substitutions: new ones, types and their pairs -/
set_option maxRecDepth 4000
namespace Go.Proofs.YtgglaabljlhliaaGreat
open Go Go.RowKit Go.V

theorem qx4 {l:List Pr} {i:Nat} (h:i < l.length):l.take (i + 1) = l.take i ++ [l.getD i R0]:=by
 rw [List.take_add_one,List.getD_eq_getElem?_getD,List.getElem?_eq_getElem h];rfl
def smlR (l:List Pr):Prop:=∀ p∈l,szY p.ty≤20000∧dpY p.ty≤300
theorem qqp {l:List Pr} (hs:smlR l) (hl:l.length≤100000):VCalls Tryz.prog 86 [] [.sl 4 (qdi l)] fun H' o=>H' = [subE (newR l)]∧o = .val (.ptr 0 0):=by
 refine qr c0v 1 (by simp) (by simp) ?_
 repeat' (first | refine vs_ ?_ | ((first | refine vr_ ?_ | (refine cs_ ?_ ?_<;>intro hc) | refine cj_ ?_ | simp (disch:=omega) only [encs_getN,qb])<;>(try refine ev_ ?_)) | with_reducible exact ti_)
 refine q2t 0 rfl rfl ?_
 refine qj (S:=Nat) (fun i=>i≤l.length) (fun i=>(⟨[(3,.ptr 0 0),(8,.sl 4 (qdi l)),(9,.int .i64 l.length),(10,.int .i64 i)],[]⟩,[subE (newR (l.take i))])) (fun i=>l.length - i) ?_ fun i hi=>?_
 ·refine qf 0 [0] (Nat.zero_le _) rfl (by simp) ?_ ?_ ?_<;>simp only [List.take_zero,newR,addR,qpo]<;>(try refine ev_ ?_)<;>(try with_reducible exact ti_)<;>(try simp (disch:=omega) only [qb,and_true,true_and])
  all_goals rfl
 ·by_cases hlt:i < l.length
  ·have hok:=qpc (l.take i)
   have hln:=qbaq (l.take i)
   rw [List.length_take] at hln
   have hm:=hs _ (qve hlt)
   have hn:newR (l.take (i + 1)) = (setR (newR (l.take i)) (l.getD i R0).v (l.getD i R0).ty).1:=by rw [qx4 hlt,newR,qqc];rfl
   have hp:=qgt hlt
   repeat' (first | refine vs_ ?_ | ((first | refine vr_ ?_ | fail)<;>(try simp (disch:=first | omega | (simp only [List.length_set,List.length_append,List.length_cons,List.length_nil];done) | (simp only [List.length_set,List.length_append,List.length_cons,List.length_nil];omega)) only [hp,qb,go_sem,↓reduceIte])) | ((first | simp (disch:=omega) only [hp] | (refine cs_ ?_ ?_<;>intro hc) | refine cj_ ?_ | simp (disch:=omega) only [encs_getN,qb] | refine qcc 0 (qo3 hok.1 (by omega) _ hm.1 hm.2) ?_)<;>(try refine ev_ ?_)) | with_reducible exact ti_)
   ·refine qf (i + 1) [0] ⟨by omega,by omega⟩ rfl (by simp) ?_ ?_ ?_<;>simp only [hn]<;>(try refine ev_ ?_)<;>(try with_reducible exact ti_)<;>(try simp (disch:=omega) only [qb,and_true,true_and])
    all_goals rw [qbc (by omega) (by omega),Int.natCast_add];rfl
   ·exfalso;omega
  ·have hie:i = l.length:=by omega
   subst hie
   rw [List.take_length]
   repeat' (first | refine vs_ ?_ | ((first | refine vr_ ?_ | (refine cs_ ?_ ?_<;>intro hc) | refine cj_ ?_ | simp (disch:=omega) only [encs_getN,qb])<;>(try refine ev_ ?_)) | with_reducible exact ti_)
   all_goals (exfalso;omega)
set_option maxRecDepth 4000

theorem q1e {R:World->(Nat->Nat->Prop)->Gh->Prop} {b:Bool} {s:List Pr} (hG:∀ v,VM Tryz.prog 136 (.cus R) (.cus R) [svA b 0,.int .i64 v] (getV s v)) (hs:okS s) {t:Ty} (h1:szY t≤20000) (h2:dpY t≤300) :
 VM Tryz.prog 87 (.cus R) (.cus R) [svA b 0,encY t] (typA (appR s t)):=by
 refine qr c0u 1 (by simp) (by simp) ?_
 have hLg:=qdl h1 h2
 rw [← qbod hs]
 by_cases hlg:qba t = true
 ·obtain ⟨q1,q2,q3⟩:=(qb5 t).1 hlg
  have hput:=qbhe hG (qbwv hs) t (qeu t q3) h1 4096 1 (by omega) (by omega) (by omega) (by omega)
  rw [hlg] at hLg
  by_cases hn:(bput s t 4096 1).1 < 0
  ·have hnd:decide ((bput s t 4096 1).1 < 0) = true:=decide_eq_true hn
   rw [appP,if_pos hlg,if_pos hn]
   repeat' (first | refine vs_ ?_ | ((first | refine vr_ ?_ | fail)<;>(try simp only [hnd,go_sem,↓reduceIte])) | ((first | (refine cs_ ?_ ?_<;>intro hc) | refine cj_ ?_ | fail | refine qa hLg fun _=>?_ | refine qt1 3 0 hput (by simp) ?_)<;>(try refine ev_ ?_)) | with_reducible exact ti_)
   all_goals rfl
  ·have hnd:decide ((bput s t 4096 1).1 < 0) = false:=decide_eq_false hn
   rw [appP,if_pos hlg,if_neg hn]
   repeat' (first | refine vs_ ?_ | ((first | refine vr_ ?_ | fail)<;>(try simp only [hnd,go_sem,↓reduceIte])) | ((first | (refine cs_ ?_ ?_<;>intro hc) | refine cj_ ?_ | fail | refine qa hLg fun _=>?_ | refine qt1 3 0 hput (by simp) ?_)<;>(try refine ev_ ?_)) | with_reducible exact ti_)
   all_goals rfl
 ·rw [appP,if_neg hlg]
  have hlg:qba t = false:=by simpa using hlg
  rw [hlg] at hLg
  repeat' (first | refine vs_ ?_ | ((first | refine vr_ ?_ | refine qa hLg fun _=>?_ | (refine cs_ ?_ ?_<;>intro hc) | refine cj_ ?_ | fail)<;>(try refine ev_ ?_)) | with_reducible exact ti_)
  all_goals rfl


section
variable {P:Program} {f:FuncId} {e:Ent} {L:List Ent} {args:List AV} {Q:List Ent->VO->Prop}
theorem qxy (h:VCalls P f [] args fun H' o=>H' = [e]∧o = .val (.ptr 0 0)) (hb:e.bd 0 = true) (ha:AV.bds 0 args = true) (hq:Q (L ++ [e]) (.val (.ptr L.length 0))):VApp P L (.fn f [] []) args Q:=by
 refine qbb9 h ha fun H1 o ho=>?_
 obtain ⟨rfl,rfl⟩:=ho
 have e1:qhy L [] [e] = L ++ [e]:=by
  show L ++ [e.ren _] = _
  rw [Ent.ren_bd0 hb]
 rw [e1]
 exact hq
end
theorem qbbz:VCalls Tryz.prog 86 [] [.sl 4 []] fun H' o=>H' = [subE []]∧o = .val (.ptr 0 0):=qqp (l:=[]) (fun p hp=>by simp at hp) (by simp)



section
variable {L:List Ent} {Q:List Ent->VO->Prop} {s t:List Pr}
theorem qbk7 {l:List Pr} (hs:smlR l) (hl:l.length≤100000) (hq:Q (L ++ [subE (newR l)]) (.val (.ptr L.length 0))):VApp Tryz.prog L (.fn 86 [] []) [.sl 4 (qdi l)] Q :=
 qxy (qqp hs hl) rfl (by simp only [AV.bds,AV.bd,qfe,Bool.and_true]) hq
theorem qf2 {f:FuncId} {e e':Ent} {rest:List AV} {r:AV} (i:Nat) (h:VM Tryz.prog f e e' (.ptr 0 0 :: rest) r) (hrest:AV.bds 0 rest = true) (hr:r.bd 0 = true) (hq:Q (L.set i e') (.val r)) (hb:e.bd 0 = true:=by rfl) (hb':e'.bd 0 = true:=by rfl) (hi:i < L.length:=by simp) (he:ent L i = e:=by rfl) :
 VApp Tryz.prog L (.fn f [] []) (.ptr i 0 :: rest) Q:=by
 refine qcc i h hq hb hb' hi he hr ?_ ?_
 ·rw [List.append_nil,AV.rens,ql (m:=0) (fun j hj=>by omega) rest hrest];rfl
 ·rw [AV.bds,Bool.and_eq_true]
  exact ⟨rfl,qcs (Nat.zero_le _) _ hrest⟩
theorem qbz9 {l:List Pr} (hs:smlR l) (hl:l.length≤100000) (e:newR l = s) (hq:Q (L ++ [subE s]) (.val (.ptr L.length 0))):VApp Tryz.prog L (.fn 86 [] []) [.sl 4 (qdi l)] Q:=by
 subst e;exact qbk7 hs hl hq
theorem qvo (hs:okS s) (hl:s.length≤100000) {ty:Ty} (q1:szY ty≤20000) (q2:dpY ty≤300):VM Tryz.prog 87 (subE s) (subE s) [.ptr 0 0,encY ty] (typA (appR s ty)) :=
 q1e (b:=true) (R:=bunR (subH s)) (fun v=>q4k hs.1 hl v) hs q1 q2
end
def wT:Ty:=⟨[84],0,[]⟩
def wU:Ty:=⟨[85],0,[]⟩
def wV:Ty:=⟨[86],0,[]⟩
def wB:Ty:=⟨[],1,[]⟩
def wR:Ty:=⟨[45,62],0,[wT,wB]⟩
def S1:List Pr:=[⟨0,wT⟩]
def S2:List Pr:=[⟨0,wT⟩,⟨1,Y0⟩]
def S3:List Pr:=[⟨0,wV⟩]
def S4:List Pr:=[⟨0,wT⟩,⟨1,wV⟩]
theorem w1:newR [⟨0,wT⟩,⟨0,wU⟩] = S1:=by rfl
theorem w3:newR [⟨0,wV⟩] = S3:=by rfl
theorem S1_ok:okS S1:=w1 ▸ qpc _
theorem qb66:okS S3:=w3 ▸ qpc _
theorem w2:setR S1 1 Y0 = (S2,0):=by rfl
theorem qb7l:okS S2:=by have:=qtd S1_ok 1 Y0;rwa [w2] at this
theorem w4:behR S2 S3 = (S4,0):=by rfl
theorem S4_ok:okS S4:=by have:=qbfw qb7l qb66;rwa [w4] at this
theorem k1:VM Tryz.prog 112 (subE S1) (subE S1) [.ptr 0 0,.int .i64 0,encY wT] (.int .i64 6):=qo3 S1_ok.1 (by decide) 0 (t:=wT) (by decide) (by decide)
theorem k2:VM Tryz.prog 112 (subE S1) (subE S2) [.ptr 0 0,.int .i64 1,encY Y0] (.int .i64 0):=qo3 S1_ok.1 (by decide) 1 (t:=Y0) (by decide) (by decide)
theorem k4:VM Tryz.prog 136 (subE S4) (subE S4) [.ptr 0 0,.int .i64 1] (.tup [encY wV,.bool true]):=q4k S4_ok.1 (by decide) 1
theorem k7:qk Tryz.prog 41 [encY wR] (.str [84,32,45,62,32,98]):=qnl (t:=wR) (by decide) (by decide) (by decide)


set_option maxRecDepth 4000



set_option maxRecDepth 4000

def prdR (s:List Pr):List Pd->List Pd->List Pd×Int
 | acc,[]=>(acc,0)
 | acc,p :: r=>if (appR s p.ty).2 = 0 then prdR s (acc ++ [⟨p.cls,(appR s p.ty).1⟩]) r else ([],(appR s p.ty).2)
theorem qpt (s:List Pr) (b:List Pd):∀ (a acc:List Pd),(prdR s acc a).2 = 0->prdR s acc (a ++ b) = prdR s (prdR s acc a).1 b
 | [],acc,_=>rfl
 | p :: r, acc, h => by
   rw [prdR] at h
   rw [List.cons_append,prdR,prdR]
   split at h
   ·rename_i h0
    rw [if_pos h0,if_pos h0,qpt s b r _ h]
   ·rename_i h0
    exact absurd h h0
theorem qxi (s:List Pr):∀ (a acc:List Pd),(prdR s acc a).2 = 0->(prdR s acc a).1.length = acc.length + a.length
 | [],acc,_=>by simp [prdR]
 | p :: r, acc, h => by
   rw [prdR] at h ⊢
   split at h
   ·rename_i h0
    rw [if_pos h0,qxi s r _ h,List.length_append,List.length_cons,List.length_cons]
    simp;omega
   ·rename_i h0
    exact absurd h h0
theorem qmz {l:List Pd} {i:Nat} (h:i < l.length):l.take (i + 1) = l.take i ++ [l.getD i P0]:=by
 rw [List.take_add_one,List.getD_eq_getElem?_getD,List.getElem?_eq_getElem h];rfl
theorem qbt1 {s:List Pr} {l:List Pd} {i:Nat} (h:i < l.length) (h0:(prdR s [] (l.take i)).2 = 0) (ha:(appR s (l.getD i P0).ty).2 = 0):prdR s [] (l.take (i + 1)) = ((prdR s [] (l.take i)).1 ++ [⟨(l.getD i P0).cls,(appR s (l.getD i P0).ty).1⟩],0):=by
 rw [qmz h,qpt s _ _ _ h0,prdR,if_pos ha,prdR]
theorem q2g {s:List Pr} {l:List Pd} {i:Nat} (h:i < l.length) (h0:(prdR s [] (l.take i)).2 = 0) (ha:(appR s (l.getD i P0).ty).2≠0):prdR s [] l = ([],(appR s (l.getD i P0).ty).2):=by
 have:=qpt s (l.drop i) (l.take i) [] h0
 rw [List.take_append_drop,dropP h] at this
 rw [this,prdR,if_neg ha]
def prdA (p:List Pd×Int):AV:=.tup [.sl 4 (qg p.1),.int .i64 p.2]
theorem qbri (k:Nat) (p:List Pd×Int):(prdA p).bd k = true:=by simp only [prdA,AV.bd,AV.bds,qbk,Bool.and_true]
def ppSt (s:List Pr) (l:List Pd) (i:Nat):AF×List Ent :=
 (⟨[(0,.ptr 0 0),(6,accV 1 (qg (prdR s [] (l.take i)).1)),(11,.sl 4 (qg l)),(12,.int .i64 l.length),(13,.int .i64 i)],[]⟩,subE s :: accE 4 (qg (prdR s [] (l.take i)).1))
set_option maxHeartbeats 1000000 in
theorem q0j {s:List Pr} (hs:okS s) (hsl:s.length≤100000) {l:List Pd} (hl:l.length≤1000) (hp:∀ p∈l,szY p.ty≤20000∧dpY p.ty≤300):VM Tryz.prog 113 (subE s) (subE s) [.ptr 0 0,.sl 4 (qg l)] (prdA (prdR s [] l)):=by
 refine qr c0t 1 (by simp) (by simp) ?_
 repeat' (first | refine vs_ ?_ | ((first | refine vr_ ?_ | (refine cs_ ?_ ?_<;>intro hc) | refine cj_ ?_ | simp (disch:=omega) only [encs_getN,qb])<;>(try refine ev_ ?_)) | with_reducible exact ti_)
 refine qj (S:=Nat) (fun i=>i≤l.length∧(prdR s [] (l.take i)).2 = 0) (ppSt s l) (fun i=>l.length - i) ?_ fun i hi=>?_
 ·refine qf 0 [0] ⟨Nat.zero_le _,rfl⟩ rfl (by simp) ?_ ?_ ?_<;>simp only [ppSt,List.take_zero,prdR,qw,qo,qn]<;>(try refine ev_ ?_)<;>(try with_reducible exact ti_)<;>(try simp (disch:=omega) only [qb,and_true,true_and])
 ·obtain ⟨hi,h0⟩:=hi
  have hal:=qxi s (l.take i) [] h0
  rw [List.length_take,List.length_nil,Nat.zero_add,Nat.min_eq_left hi] at hal
  unfold ppSt
  by_cases hlt:i < l.length
  ·have hg:=q8 hlt
   obtain ⟨m1,m2⟩:=hp _ (qvg hlt)
   have hby:∀ t,AV.bds 0 [encY t] = true:=fun t=>by simp only [AV.bds,qck,Bool.and_true]
   have hA:=qvo hs hsl m1 m2
   have hT:typA (appR s (l.getD i P0).ty) = .tup [encY (appR s (l.getD i P0).ty).1,.int .i64 (appR s (l.getD i P0).ty).2]:=rfl
   rw [hT] at hA
   have hb1:AV.bd 0 (.tup [encY (appR s (l.getD i P0).ty).1,.int .i64 (appR s (l.getD i P0).ty).2]) = true:=q1v 0 _
   by_cases ha:(appR s (l.getD i P0).ty).2 = 0
   ·have hn:=qbt1 hlt h0 ha
    rw [ha] at hA hb1
    obtain ⟨B,hB⟩:∃ B,(prdR s [] (l.take i)).1 = B:=⟨_,rfl⟩
    rw [hB] at hn hal ⊢
    by_cases hz:B = []
    ·subst hz
     simp only [qw,qo,qn]
     repeat' (first | refine vs_ ?_ | ((first | refine vr_ ?_ | fail)<;>(try simp (disch:=first | omega | (simp only [List.length_set,List.length_append,List.length_cons,List.length_nil];done) | (simp only [List.length_set,List.length_append,List.length_cons,List.length_nil];omega)) only [hg,qb,go_sem,↓reduceIte])) | ((first | simp (disch:=omega) only [hg] | simp (disch:=omega) only [(show qbb 1 64 = True from eq_true (by unfold qbb;omega))] | (refine cs_ ?_ ?_<;>intro hc) | refine cj_ ?_ | simp (disch:=omega) only [encs_getN,qb] | refine qf2 0 hA (hby _) hb1 ?_)<;>(try refine ev_ ?_)) | with_reducible exact ti_)
     ·refine qf (i + 1) [0,3] ⟨⟨by omega,by rw [hn]⟩,by omega⟩ rfl (by simp) ?_ ?_ ?_<;>simp only [ppSt,hn,List.nil_append,← qid,qda,qdc]<;>(try refine ev_ ?_)<;>(try with_reducible exact ti_)<;>(try simp (disch:=omega) only [qb,and_true,true_and])
      ·rfl
      ·rw [qbc (by omega) (by omega),Int.natCast_add];rfl
     ·exfalso;omega
    ·have hne:=qbq hz
     simp only [qu hne,qv hne,qi]
     have hcap:qbb (B.length + 1) 64 = True:=eq_true (by unfold qbb;omega)
     repeat' (first | refine vs_ ?_ | ((first | refine vr_ ?_ | fail)<;>(try simp (disch:=first | omega | (simp only [List.length_set,List.length_append,List.length_cons,List.length_nil];done) | (simp only [List.length_set,List.length_append,List.length_cons,List.length_nil];omega)) only [hg,qb,qi,go_sem,↓reduceIte])) | ((first | simp (disch:=omega) only [hg] | simp (disch:=omega) only [hcap] | (refine cs_ ?_ ?_<;>intro hc) | refine cj_ ?_ | simp (disch:=omega) only [encs_getN,qb] | refine qf2 0 hA (hby _) hb1 ?_)<;>(try refine ev_ ?_)) | with_reducible exact ti_)
     ·refine qf (i + 1) [0,4] ⟨⟨by omega,by rw [hn]⟩,by omega⟩ rfl (by simp) ?_ ?_ ?_<;>simp only [ppSt,hn,← qb8,qdj,qdh,qi]<;>(try refine ev_ ?_)<;>(try with_reducible exact ti_)<;>(try simp (disch:=omega) only [qb,and_true,true_and])
      ·rw [qb8,qbp];exact ⟨qbk _ _,congrArg (Ent.app 4) (qb8 B ⟨(l.getD i P0).cls,(appR s (l.getD i P0).ty).1⟩)⟩
      ·rw [qbc (by omega) (by omega),Int.natCast_add];rfl
     ·exfalso;omega
   ·have had:decide ((appR s (l.getD i P0).ty).2 = 0) = false:=decide_eq_false ha
    have hstop:=q2g hlt h0 ha
    rw [hstop]
    obtain ⟨B,hB⟩:∃ B,(prdR s [] (l.take i)).1 = B:=⟨_,rfl⟩
    rw [hB]
    by_cases hz:B = []
    ·subst hz
     simp only [qw,qo,qn]
     repeat' (first | refine vs_ ?_ | ((first | refine vr_ ?_ | fail)<;>(try simp (disch:=first | omega | (simp only [List.length_set,List.length_append,List.length_cons,List.length_nil];done) | (simp only [List.length_set,List.length_append,List.length_cons,List.length_nil];omega)) only [hg,qb,had,go_sem,↓reduceIte])) | ((first | simp (disch:=omega) only [hg] | (refine cs_ ?_ ?_<;>intro hc) | refine cj_ ?_ | simp (disch:=omega) only [encs_getN,qb] | refine qf2 0 hA (hby _) hb1 ?_)<;>(try refine ev_ ?_)) | with_reducible exact ti_)
     ·rfl
     ·exfalso;omega
    ·have hne:=qbq hz
     simp only [qu hne,qv hne,qi]
     repeat' (first | refine vs_ ?_ | ((first | refine vr_ ?_ | fail)<;>(try simp (disch:=first | omega | (simp only [List.length_set,List.length_append,List.length_cons,List.length_nil];done) | (simp only [List.length_set,List.length_append,List.length_cons,List.length_nil];omega)) only [hg,qb,had,go_sem,↓reduceIte])) | ((first | simp (disch:=omega) only [hg] | (refine cs_ ?_ ?_<;>intro hc) | refine cj_ ?_ | simp (disch:=omega) only [encs_getN,qb] | refine qf2 0 hA (hby _) hb1 ?_)<;>(try refine ev_ ?_)) | with_reducible exact ti_)
     ·rfl
     ·exfalso;omega
  ·have hti:l.take i = l:=List.take_of_length_le (by omega)
   rw [hti] at h0 ⊢
   have he:prdR s [] l = ((prdR s [] l).1,0):=by rw [← h0]
   rw [he]
   generalize (prdR s [] l).1 = B
   by_cases hz:B = []
   ·subst hz
    simp only [qw,qo,qn]
    repeat' (first | refine vs_ ?_ | ((first | refine vr_ ?_ | fail)<;>(try simp only [q7,go_sem,↓reduceIte])) | ((first | (refine cs_ ?_ ?_<;>intro hc) | refine cj_ ?_ | simp (disch:=omega) only [encs_getN,qb])<;>(try refine ev_ ?_)) | with_reducible exact ti_)
    ·exfalso;omega
    ·rfl
   ·have hne:=qbq hz
    simp only [qu hne,qv hne,qi]
    repeat' (first | refine vs_ ?_ | ((first | refine vr_ ?_ | fail)<;>(try simp only [qi,go_sem,↓reduceIte])) | ((first | (refine cs_ ?_ ?_<;>intro hc) | refine cj_ ?_ | simp (disch:=omega) only [encs_getN,qb])<;>(try refine ev_ ?_)) | with_reducible exact ti_)
    ·exfalso;omega
    ·rfl
end Go.Proofs.YtgglaabljlhliaaGreat
