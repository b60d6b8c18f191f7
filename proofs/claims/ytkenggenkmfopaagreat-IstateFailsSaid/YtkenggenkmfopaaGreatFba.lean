/- Texts of this proof, joined. -/
import Derived.Test.YtkenggenkmfopaaGreatFaz
import Derived.Test.YtkenggenkmfopaaGreatFax
import Derived.Test.YtkenggenkmfopaaGreatFay
set_option linter.unusedVariables false
set_option linter.unusedSimpArgs false

/- substitutions: new ones, types and their pairs -/
set_option maxRecDepth 4000
namespace Go.Proofs.YtkenggenkmfopaaGreat
open Go Go.RowKit Go.V

theorem qki{l:List Pr}{i:Nat}(h:i<l.length):l.take (i+1)=l.take i++[l.getD i R0]:=by
 rw[List.take_add_one,List.getD_eq_getElem?_getD,List.getElem?_eq_getElem h];rfl
def smlR(l:List Pr):Prop:=∀p∈l,szY p.ty≤20000∧dpY p.ty≤300
theorem qr6{l:List Pr}(hs:smlR l)(hl:l.length≤100000):VCalls Tryz.prog 39 [] [.sl 4 (qz l)] fun H' o=>H'=[subE (newR l)]∧o=.val (.ptr 0 0):=by
 refine qe c0dw 1 (by simp) (by simp) ?_
 repeat'(first|refine vs_ ?_|((first|refine vr_ ?_|(refine cs_ ?_ ?_<;>intro hc)|refine cj_ ?_)<;>try refine ev_ ?_)|with_reducible exact ti_)
 refine q75 0 rfl rfl ?_
 refine qk (S:=Nat) (fun i=>i≤l.length) (fun i=>(⟨[(3,.ptr 0 0),(8,.sl 4 (qz l)),(9,.int .i64 l.length),(10,.int .i64 i)],[]⟩,[subE (newR (l.take i))])) (fun i=>l.length-i) ?_ fun i hi=>?_
 ·refine qg 0 [0] (Nat.zero_le _) rfl (by simp) ?_ ?_ ?_<;>simp only[List.take_zero,newR,addR,qli]<;>(try refine ev_ ?_)<;>(try with_reducible exact ti_)<;>(try simp (disch:=omega) only[qb,and_true,true_and])
  all_goals rfl
 ·by_cases hlt:i<l.length
  ·have hok:=qng (l.take i)
   have hln:=qban (l.take i)
   rw[List.length_take] at hln
   have hm:=hs _ (qfa hlt)
   have hn:newR (l.take (i+1))=(setR (newR (l.take i)) (l.getD i R0).v (l.getD i R0).ty).1:=by rw[qki hlt,newR,qn2];rfl
   have hp:=qs hlt
   repeat'(first|refine vs_ ?_|(refine vr_ ?_<;>try simp (disch:=first|omega|(simp only[List.length_set,List.length_append,List.length_cons,List.length_nil];try omega)) only[hp,qb,go_sem,↓reduceIte])|((first|simp (disch:=omega) only[hp]|(refine cs_ ?_ ?_<;>intro hc)|refine cj_ ?_|refine qca 0 (qkd hok.1 (by omega) _ hm.1 hm.2) ?_)<;>try refine ev_ ?_)|with_reducible exact ti_)
   ·refine qg (i+1) [0] ⟨by omega,by omega⟩ rfl (by simp) ?_ ?_ ?_<;>simp only[hn]<;>(try refine ev_ ?_)<;>(try with_reducible exact ti_)<;>(try simp (disch:=omega) only[qb,and_true,true_and])
    all_goals rw[qo (by omega) (by omega),Int.natCast_add];rfl
   ·exfalso;omega
  ·have hie:i=l.length:=by omega
   subst hie
   rw[List.take_length]
   repeat'(first|refine vs_ ?_|((first|refine vr_ ?_|(refine cs_ ?_ ?_<;>intro hc)|refine cj_ ?_)<;>try refine ev_ ?_)|with_reducible exact ti_)
   all_goals(exfalso;omega)
set_option maxRecDepth 4000

theorem qsf{R:World->(Nat->Nat->Prop)->Gh->Prop}{b:Bool}{s:List Pr}(hG:∀v,VM Tryz.prog 123 (.cus R) (.cus R) [svA b 0,.int .i64 v] (getV s v))(hs:okS s){t:Ty}(h1:szY t≤20000)(h2:dpY t≤300):
 VM Tryz.prog 53 (.cus R) (.cus R) [svA b 0,encY t] (typA (appR s t)):=by
 refine qe c0dv 1 (by simp) (by simp) ?_
 have hLg:=qd6 h1 h2
 rw[←qb34 hs]
 by_cases hlg:qi t=true
 ·obtain⟨q1,q2,q3⟩:=(qu t).1 hlg
  have hput:=qb3t hG (qp5 hs) t (qdt t q3) h1 4096 1 (by omega) (by omega) (by omega) (by omega)
  rw[hlg] at hLg
  by_cases hn:(bput s t 4096 1).1<0
  ·have hnd:decide ((bput s t 4096 1).1<0)=true:=decide_eq_true hn
   rw[appP,if_pos hlg,if_pos hn]
   repeat'(first|refine vs_ ?_|(refine vr_ ?_<;>try simp only[hnd,go_sem,↓reduceIte])|((first|(refine cs_ ?_ ?_<;>intro hc)|refine cj_ ?_|fail|refine qa hLg fun _=>?_|refine qw5 3 0 hput (by simp) ?_)<;>try refine ev_ ?_)|with_reducible exact ti_)
   all_goals rfl
  ·have hnd:decide ((bput s t 4096 1).1<0)=false:=decide_eq_false hn
   rw[appP,if_pos hlg,if_neg hn]
   repeat'(first|refine vs_ ?_|(refine vr_ ?_<;>try simp only[hnd,go_sem,↓reduceIte])|((first|(refine cs_ ?_ ?_<;>intro hc)|refine cj_ ?_|fail|refine qa hLg fun _=>?_|refine qw5 3 0 hput (by simp) ?_)<;>try refine ev_ ?_)|with_reducible exact ti_)
   all_goals rfl
 ·rw[appP,if_neg hlg]
  have hlg:qi t=false:=by simpa using hlg
  rw[hlg] at hLg
  repeat'(first|refine vs_ ?_|((first|refine vr_ ?_|refine qa hLg fun _=>?_|(refine cs_ ?_ ?_<;>intro hc)|refine cj_ ?_)<;>try refine ev_ ?_)|with_reducible exact ti_)
  all_goals rfl
set_option maxRecDepth 4000

def zR:AV:=.agg [.int .i64 0,.str [],.int .i64 0,.nils]
def cpR(l:List Pr)(i:Nat):List AV:=qz (l.take i)++List.replicate (l.length-i) zR
theorem qb51{l:List Pr}{i:Nat}(h:i≤l.length):(cpR l i).length=l.length:=by
 rw[cpR,List.length_append,qbk,List.length_take,List.length_replicate];omega
theorem qcmc(l:List Pr):cpR l 0=List.replicate l.length zR:=by rw[cpR,List.take_zero,qdj,Nat.sub_zero];rfl
theorem qbn2(l:List Pr):cpR l l.length=qz l:=by rw[cpR,List.take_length,Nat.sub_self,List.replicate_zero,List.append_nil]
theorem q7n{l:List Pr}{i:Nat}(h:i<l.length):(cpR l i).set i (encR (l.getD i R0))=cpR l (i+1):=by
 have h2:(qz (l.take i)).length=i:=by rw[qbk,List.length_take];omega
 obtain⟨k,hk⟩:∃k,l.length-i=k+1:=⟨l.length-i-1,by omega⟩
 have hk2:l.length-(i+1)=k:=by omega
 rw[cpR,cpR,hk,hk2,List.replicate_succ,qki h,←qkk,List.set_append_right _ _ (by omega),h2,Nat.sub_self,List.set_cons_zero,List.append_assoc]
 rfl
theorem qzb(k:Nat)(l:List Pr)(i:Nat):AV.bds k (cpR l i)=true:=by
 rw[cpR,qhp,qcd,qc2]
 simp[zR,AV.bd,AV.bds]
theorem qwc(σ:Nat->Nat)(l:List Pr)(i:Nat):AV.rens σ (cpR l i)=cpR l i:=qp (m:=0) (fun i hi=>by omega) _ (qzb 0 l i)
attribute [go_sem] qzb qwc
theorem q5o:VCalls Tryz.prog 81 [.blk [.nils]] [.ptr 0 0] (qdk fun H' o=>H'=[subE []]∧o=.val (.sl 4 (qz []))):=by
 refine qe c0du 1 (by simp) (by simp) ?_
 repeat'(first|refine vs_ ?_|((first|refine vr_ ?_|(refine cs_ ?_ ?_<;>intro hc)|refine cj_ ?_)<;>try refine ev_ ?_)|with_reducible exact ti_)
 refine qk (S:=Unit) (fun _=>True) (fun _=>(⟨[(3,.row 1 0),(18,.int .i64 (0:Nat)),(19,.int .i64 (0:Nat))],[]⟩,[.blk [.nils],.mrow 4 []])) (fun _=>0) ?_ fun x hx=>?_
 ·refine qg () [0,1] trivial rfl (by simp) ?_ ?_ ?_<;>(try refine ev_ ?_)<;>(try with_reducible exact ti_)<;>(try simp (disch:=omega) only[qb,and_true,true_and])
  all_goals rfl
 ·refine qb6 1 rfl (fun v hv=>by simp at hv) ?_
  repeat'(first|refine vs_ ?_|((first|refine vr_ ?_|(refine cs_ ?_ ?_<;>intro hc)|refine cj_ ?_)<;>try refine ev_ ?_)|with_reducible exact ti_)
  ·exact absurd hc (by omega)
  ·exact qii rfl (by simp) rfl ⟨rfl,rfl⟩
theorem qbgc{s:List Pr}(hs:s≠[])(hl:s.length≤100000)(ho:smlR s):VCalls Tryz.prog 81 [.blk [.row 1 s.length],qct s] [.ptr 0 0] (qdk fun H' o=>H'=[subE s]∧o=.val (.sl 4 (qz s))):=by
 refine qe c0du 2 (by simp) (by simp) ?_
 repeat'(first|refine vs_ ?_|((first|refine vr_ ?_|(refine cs_ ?_ ?_<;>intro hc)|refine cj_ ?_)<;>try refine ev_ ?_)|with_reducible exact ti_)
 have hm:s.length≤maxLen:=by unfold maxLen;omega
 refine⟨hm,⟨by omega,by omega⟩,?_⟩
 repeat'(first|refine vs_ ?_|((first|refine vr_ ?_|(refine cs_ ?_ ?_<;>intro hc)|refine cj_ ?_)<;>try refine ev_ ?_)|with_reducible exact ti_)
 refine qk (S:=Nat) (fun i=>i≤s.length) (fun i=>(⟨[(3,.row 2 s.length),(17,.row 1 s.length),(18,.int .i64 s.length),(19,.int .i64 i)],[]⟩,[.blk [.row 1 s.length],qct s,.mrow 4 (cpR s i)])) (fun i=>s.length-i) ?_ fun i hi=>?_
 ·refine qg 0 [0,1,2] (Nat.zero_le _) rfl (by simp) ?_ ?_ ?_<;>simp only[qcmc,zR]<;>(try refine ev_ ?_)<;>(try with_reducible exact ti_)<;>(try simp (disch:=omega) only[qb,and_true,true_and])
  all_goals
   rw[show List.replicate s.length (AV.agg [AV.int .i64 0,AV.str [],AV.int .i64 0,AV.nils])=cpR s 0 from(qcmc _).symm]
   exact⟨qzb _ _ _,by rw[qwc]⟩
 ·by_cases hlt:i<s.length
  ·have hp:=qs hlt
   have hc:=qb51 hi
   have hcp:=qfb (s.getD i R0).ty (by have:=(ho _ (qfa hlt)).1;omega)
   repeat'(first|refine vs_ ?_|(refine vr_ ?_<;>try simp (disch:=first|omega|(simp only[List.length_set,List.length_append,List.length_cons,List.length_nil];try omega)) only[hp,qb,go_sem,↓reduceIte])|((first|simp (disch:=omega) only[hp]|(refine cs_ ?_ ?_<;>intro hc)|refine cj_ ?_|refine qa hcp fun _=>?_|refine qc hcp ?_)<;>try refine ev_ ?_)|with_reducible exact ti_)
   ·refine qg (i+1) [0,1,2] ⟨by omega,by omega⟩ rfl (by simp) ?_ ?_ ?_<;>simp only[←q7n hlt]<;>(try refine ev_ ?_)<;>(try with_reducible exact ti_)<;>(try simp (disch:=omega) only[qb,and_true,true_and])
    all_goals(rw[q7n hlt];exact⟨qzb _ _ _,by rw[qwc]⟩)
   ·exfalso;omega
  ·have hie:i=s.length:=by omega
   subst hie
   rw[qbn2]
   refine qb6 2 rfl (qpq _) ?_
   repeat'(first|refine vs_ ?_|((first|refine vr_ ?_|(refine cs_ ?_ ?_<;>intro hc)|refine cj_ ?_)<;>try refine ev_ ?_)|with_reducible exact ti_)
   all_goals try(exfalso;omega)
   all_goals exact qe4 1 hs rfl rfl (by simp) (by simp) (by simp[AV.bd,qcd]) ⟨rfl,rfl⟩
theorem qfr{s:List Pr}(hl:s.length≤100000)(ho:smlR s):VM Tryz.prog 81 (subE s) (subE s) [.ptr 0 0] (.sl 4 (qz s)):=by
 by_cases hs:s=[]
 ·subst hs
  exact qc4 (by rw[qli];exact q5o) rfl
 ·exact qc4 (by have:=qbgc hs hl ho;rwa [←qq6 hs] at this) rfl
set_option maxRecDepth 4000

structure SS where
 vars:Int
 fixed:Int
 names:Int
 holes:Int
 known:List Pr
 waits:List Wt
 fills:List (Int×Tm)
 free:List (Int×Int)
 pos:Int
 err:Int
def qgm(l:List (Int×Tm)):List (Int×AV):=l.map fun p=>(p.1,encT p.2)
def qf2(l:List (Int×Int)):List (Int×AV):=l.map fun p=>(p.1,.int .i64 p.2)
abbrev stc(S:SS):List AV:=[.int .i64 S.vars,.int .i64 S.fixed,.int .i64 S.names,.int .i64 S.holes,.ptr 1 0,.sl 6 (qbg S.waits),.opq 2,.opq 3,.int .i64 S.pos,.int .i64 S.err]
abbrev stH(S:SS):List Ent:=[.blk (stc S),subE S.known,mapE (qgm S.fills),mapE (qf2 S.free)]
abbrev stE(S:SS):Ent:=bun (stH S)
theorem qt5{Q:List Ent->VO->Prop}{H':List Ent}{S:SS}{r:AV}(k1 k2 k3:Nat)
 (h0:ent H' 0=.blk [.int .i64 S.vars,.int .i64 S.fixed,.int .i64 S.names,.int .i64 S.holes,.ptr k1 0,.sl 6 (qbg S.waits),.opq k2,.opq k3,.int .i64 S.pos,.int .i64 S.err])
 (h1:ent H' k1=subE S.known) (h2:ent H' k2=mapE (qgm S.fills)) (h3:ent H' k3=mapE (qf2 S.free))
 (hn:[0,k1,k2,k3].Nodup) (hl0:0<H'.length) (hl1:k1<H'.length) (hl2:k2<H'.length) (hl3:k3<H'.length) (hr:r.bd 0=true) (h:Q [stE S] (.val r)):qdk Q H' (.val r) :=
 ⟨stH S,[0,k1,k2,k3],rfl,by simp,hn,⟨⟨hl0,by simp only[Ent.bd,AV.bds,AV.bd,qcv];rfl,by rw[h0];simp only[Ent.ren,AV.rens,AV.ren,qda];rfl⟩,⟨hl1,rfl,by rw[h1];rfl⟩,⟨hl2,rfl,by rw[h2];rfl⟩,⟨hl3,rfl,by rw[h3];rfl⟩,trivial⟩,qmu (Nat.zero_le _) _ hr,h⟩
theorem qz1{Q:List Ent->VO->Prop}{L:List Ent}{S:SS}{r:AV}(hr:r.bd 0=true)(h:Q [stE S] (.val r)):qdk Q (stH S++L) (.val r) :=
 qt5 1 2 3 rfl rfl rfl rfl (by simp) (by simp) (by simp) (by simp) (by simp) hr h

theorem qbf{Q:List Ent->VO->Prop}{H' L:List Ent}{S:SS}{r:AV}(hH:H'=stH S++L)(hr:r.bd 0=true)(h:Q [stE S] (.val r)):qdk Q H' (.val r):=by subst hH;exact qz1 hr h
/-! maps -/
def qfq{α:Type}:List (Int×α)->Int->Option (Nat×α)
 | [],_=>none
 | (a,v)::r,k=>if a=k then some (0,v) else(qfq r k).map fun p=>(p.1+1,p.2)
def updG{α:Type}(l:List (Int×α))(k:Int)(v:α):List (Int×α):=match qfq l k with
 | some (j,_)=>l.set j (k,v)
 | none=>l++[(k,v)]
def delG{α:Type}(l:List (Int×α))(k:Int):List (Int×α):=match qfq l k with
 | some (j,_)=>l.eraseIdx j
 | none=>l
theorem qgz{α:Type}(f:α->AV):∀(l:List (Int×α)) (k:Int),qgb (l.map fun p=>(p.1,f p.2)) k=(qfq l k).map fun p=>(p.1,f p.2)
 | [],k=>rfl
 | (a, v) :: r, k => by
   rw[List.map_cons,qgb,qfq]
   split
   ·rfl
   ·rw[qgz f r k,Option.map_map,Option.map_map];rfl
theorem qzq{α:Type}(f:α->AV)(l:List (Int×α))(k:Int)(v:α):updM (l.map fun p=>(p.1,f p.2)) k (f v)=(updG l k v).map fun p=>(p.1,f p.2):=by
 unfold updM updG
 rw[qgz]
 cases qfq l k with
 | none=>simp
 | some p=>obtain⟨j,x⟩:=p;simp[List.map_set]
theorem qi2{α β:Type}(g:α->β):∀(l:List α) (j:Nat),(l.map g).eraseIdx j=(l.eraseIdx j).map g
 | [],j=>by simp
 | x::r,0=>rfl
 | x :: r, j + 1 => by
   show g x::(r.map g).eraseIdx j=g x::(r.eraseIdx j).map g
   rw[qi2 g r j]
theorem q9w{α:Type}(f:α->AV)(l:List (Int×α))(k:Int):delM (l.map fun p=>(p.1,f p.2)) k=(delG l k).map fun p=>(p.1,f p.2):=by
 unfold delM delG
 rw[qgz]
 cases qfq l k with
 | none=>simp
 | some p=>obtain⟨j,x⟩:=p;exact qi2 _ l j
section
variable {H:List Ent} {raws:List AV} {K:Md->AV->List Ent->Prop}
theorem qckh(i:Nat){S:List (Int×Int)}{k v:Int}(hq:K (.meth i (mapE (qf2 S)) (mapE (qf2 (updG S k v)))) (.tup []) (H.set i (mapE (qf2 (updG S k v)))))(he:ent H i=mapE (qf2 S):=by rfl):DApp Tryz.prog H (mkV (.upd 95)) [.opq i,.int .i64 k,.int .i64 v] raws K:=by
 have hu:updM (qf2 S) k (.int .i64 v)=qf2 (updG S k v):=qzq (AV.int .i64) S k v
 rw[←hu] at hq
 exact .inr (.inr (.inl ⟨_,i,_,_,⟨(by intro h;cases h),he,fun H₀ h0=>qbkx rfl rfl rfl h0 ⟨rfl,rfl⟩⟩,hq⟩))
theorem qcj3(i:Nat){S:List (Int×Tm)}{k:Int}{v:Tm}(hq:K (.meth i (mapE (qgm S)) (mapE (qgm (updG S k v)))) (.tup []) (H.set i (mapE (qgm (updG S k v)))))(he:ent H i=mapE (qgm S):=by rfl):DApp Tryz.prog H (mkV (.upd 94)) [.opq i,.int .i64 k,encT v] raws K:=by
 have hu:updM (qgm S) k (encT v)=qgm (updG S k v):=qzq encT S k v
 rw[←hu] at hq
 exact .inr (.inr (.inl ⟨_,i,_,_,⟨(by intro h;cases h),he,fun H₀ h0=>qbkx rfl rfl (qb4 0 v) h0 ⟨rfl,rfl⟩⟩,hq⟩))
end

def varS(S:SS):SS:={ S with vars:=IntKind.i64.wrap (S.vars+1) }
theorem q8x(S:SS):VM Tryz.prog 21 (stE S) (stE (varS S)) [.ptr 0 0] (encY (.mk [] (IntKind.i64.wrap (0-IntKind.i64.wrap (S.vars+1))) [])):=by
 refine qc4 ?_ (by simp[AV.bds,AV.bd])
 refine qe c0k 4 (by simp) (by simp) ?_
 repeat'(first|refine vs_ ?_|((first|refine vr_ ?_|(refine cs_ ?_ ?_<;>intro hc)|refine cj_ ?_)<;>try refine ev_ ?_)|with_reducible exact ti_)
 exact qbf (S:=varS S) (L:=[]) rfl rfl ⟨rfl,rfl⟩
def fixS(S:SS):SS:={ S with fixed:=IntKind.i64.wrap (S.fixed+1) }
theorem qblt(S:SS):VM Tryz.prog 22 (stE S) (stE (fixS S)) [.ptr 0 0] (encY (.mk (33::digI (IntKind.i64.wrap (IntKind.i64.wrap (S.fixed+1)-1))) 0 [])):=by
 refine qc4 ?_ (by simp[AV.bds,AV.bd])
 refine qe c0l 4 (by simp) (by simp) ?_
 repeat'(first|refine vs_ ?_|((first|refine vr_ ?_|refine qa (qfu _) fun _=>?_|(refine cs_ ?_ ?_<;>intro hc)|refine cj_ ?_)<;>try refine ev_ ?_)|with_reducible exact ti_)
 refine⟨by have:=qjs (qf3 .i64 (IntKind.i64.wrap (S.fixed+1)-1));have hml:maxLen=9223372036854775807:=rfl;omega,?_⟩
 repeat'(first|refine vs_ ?_|((first|refine vr_ ?_|(refine cs_ ?_ ?_<;>intro hc)|refine cj_ ?_)<;>try refine ev_ ?_)|with_reducible exact ti_)
 exact qbf (S:=fixS S) (L:=[]) rfl rfl ⟨rfl,rfl⟩
def q44(S:SS):SS:={ S with names:=IntKind.i64.wrap (S.names+1) }
theorem qu6(S:SS):VM Tryz.prog 23 (stE S) (stE (q44 S)) [.ptr 0 0] (.str (35::digI (IntKind.i64.wrap (IntKind.i64.wrap (S.names+1)-1)))):=by
 refine qc4 ?_ (by simp[AV.bds,AV.bd])
 refine qe c0m 4 (by simp) (by simp) ?_
 repeat'(first|refine vs_ ?_|((first|refine vr_ ?_|refine qa (qfu _) fun _=>?_|(refine cs_ ?_ ?_<;>intro hc)|refine cj_ ?_)<;>try refine ev_ ?_)|with_reducible exact ti_)
 refine⟨by have:=qjs (qf3 .i64 (IntKind.i64.wrap (S.names+1)-1));have hml:maxLen=9223372036854775807:=rfl;omega,?_⟩
 repeat'(first|refine vs_ ?_|((first|refine vr_ ?_|(refine cs_ ?_ ?_<;>intro hc)|refine cj_ ?_)<;>try refine ev_ ?_)|with_reducible exact ti_)
 exact qbf (S:=q44 S) (L:=[]) rfl rfl ⟨rfl,rfl⟩
def qmb(S:SS)(e pos:Int):SS:=if S.err=0 then { S with err:=if e=0 then 1 else e,pos:=pos } else S
theorem qvd(S:SS)(e pos:Int):VM Tryz.prog 17 (stE S) (stE (qmb S e pos)) [.ptr 0 0,.int .i64 e,.int .i64 pos] (.bool false):=by
 refine qc4 ?_ (by simp[AV.bds,AV.bd])
 refine qe c0n 4 (by simp) (by simp) ?_
 unfold qmb
 by_cases h1:S.err=0
 ·rw[if_pos h1]
  by_cases h2:e=0
  ·rw[if_pos h2]
   repeat'(first|refine vs_ ?_|(refine vr_ ?_<;>try simp only[h1,h2,go_sem,↓reduceIte])|((first|(refine cs_ ?_ ?_<;>intro hc)|refine cj_ ?_)<;>try refine ev_ ?_)|with_reducible exact ti_)
   exact qbf (S:={ S with err:=1,pos:=pos }) (L:=[]) rfl rfl ⟨rfl,rfl⟩
  ·rw[if_neg h2]
   repeat'(first|refine vs_ ?_|(refine vr_ ?_<;>try simp only[h1,h2,go_sem,↓reduceIte])|((first|(refine cs_ ?_ ?_<;>intro hc)|refine cj_ ?_)<;>try refine ev_ ?_)|with_reducible exact ti_)
   exact qbf (S:={ S with err:=e,pos:=pos }) (L:=[]) rfl rfl ⟨rfl,rfl⟩
 ·rw[if_neg h1]
  repeat'(first|refine vs_ ?_|(refine vr_ ?_<;>try simp only[h1,go_sem,↓reduceIte])|((first|(refine cs_ ?_ ?_<;>intro hc)|refine cj_ ?_)<;>try refine ev_ ?_)|with_reducible exact ti_)
  exact qbf (S:=S) (L:=[]) rfl rfl ⟨rfl,rfl⟩
theorem qvs(S:SS):VM Tryz.prog 19 (stE S) (stE S) [.ptr 0 0] (.tup [.int .i64 S.pos,.int .i64 S.err]):=by
 refine qc4 ?_ (by simp[AV.bds,AV.bd])
 refine qe c0o 4 (by simp) (by simp) ?_
 repeat'(first|refine vs_ ?_|((first|refine vr_ ?_|(refine cs_ ?_ ?_<;>intro hc)|refine cj_ ?_)<;>try refine ev_ ?_)|with_reducible exact ti_)
 exact qbf (S:=S) (L:=[]) rfl rfl ⟨rfl,rfl⟩
def useH(S:SS):Int:=IntKind.i64.wrap (IntKind.i64.wrap (S.holes+1)-1)
def useS(S:SS):SS:={ S with holes:=IntKind.i64.wrap (S.holes+1),free:=updG S.free (useH S) 1 }
theorem q8h(S:SS):VM Tryz.prog 26 (stE S) (stE (useS S)) [.ptr 0 0] (.int .i64 (useH S)):=by
 refine qc4 ?_ (by simp[AV.bds,AV.bd])
 refine qe c0p 4 (by simp) (by simp) ?_
 repeat'(first|refine vs_ ?_|((first|refine vr_ ?_|refine qckh 3 ?_|(refine cs_ ?_ ?_<;>intro hc)|refine cj_ ?_)<;>try refine ev_ ?_)|with_reducible exact ti_)
 all_goals exact qbf (S:=useS S) (L:=[]) rfl rfl ⟨rfl,rfl⟩
def cutN(S:SS)(n:Int):Int:=if S.waits.length<(if 0 > n then 0 else n) then S.waits.length else(if 0 > n then 0 else n)
def forS(S:SS)(n:Int):SS:={ S with waits:=S.waits.take (cutN S n).toNat }
theorem q6d{S:SS}{n:Int}(hl:S.waits.length≤maxLen):VM Tryz.prog 20 (stE S) (stE (forS S n)) [.ptr 0 0,.int .i64 n] (.tup []):=by
 refine qc4 ?_ (by simp[AV.bds,AV.bd])
 refine qe c0q 4 (by simp) (by simp) ?_
 repeat'(first|refine vs_ ?_|((first|refine vr_ ?_|(refine cs_ ?_ ?_<;>intro hc)|refine cj_ ?_)<;>try refine ev_ ?_)|with_reducible exact ti_)
 exact qbf (S:=forS S n) (L:=[]) rfl rfl ⟨rfl,rfl⟩
end Go.Proofs.YtkenggenkmfopaaGreat
