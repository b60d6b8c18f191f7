/- A text of this proof. -/
import Derived.Test.YtkenggenkmfopaaGreatIbq
import Derived.Test.YtkenggenkmfopaaGreatIbr
import Derived.Test.YtkenggenkmfopaaGreatIbc
set_option linter.unusedVariables false
set_option linter.unusedSimpArgs false

/- the state: its entries; the plain methods -/
set_option maxRecDepth 4000
namespace Go.Proofs.YtkenggenkmfopaaGreat
open Go Go.RowKit Go.V

structure SS where
 vars:Int
 fixed:Int
 names:Int
 holes:Int
 known:List Pr
 waits:List Wt
 fills:List (Int×Tm)
 free:List (Int×Int)
 pos:Int
 err:Int
def qbec(l:List (Int×Tm)):List (Int×AV):=l.map fun p=>(p.1,encT p.2)
def qbg6(l:List (Int×Int)):List (Int×AV):=l.map fun p=>(p.1,.int .i64 p.2)
abbrev stc(S:SS):List AV:=[.int .i64 S.vars,.int .i64 S.fixed,.int .i64 S.names,.int .i64 S.holes,.ptr 1 0,.sl 6 (qe3 S.waits),.opq 2,.opq 3,.int .i64 S.pos,.int .i64 S.err]
abbrev stH(S:SS):List Ent:=[.blk (stc S),subE S.known,mapE (qbec S.fills),mapE (qbg6 S.free)]
abbrev stE(S:SS):Ent:=bun (stH S)
theorem qvc{Q:List Ent->VO->Prop}{H':List Ent}{S:SS}{r:AV}(k1 k2 k3:Nat)
 (h0:ent H' 0=.blk [.int .i64 S.vars,.int .i64 S.fixed,.int .i64 S.names,.int .i64 S.holes,.ptr k1 0,.sl 6 (qe3 S.waits),.opq k2,.opq k3,.int .i64 S.pos,.int .i64 S.err])
 (h1:ent H' k1=subE S.known) (h2:ent H' k2=mapE (qbec S.fills)) (h3:ent H' k3=mapE (qbg6 S.free))
 (hn:[0,k1,k2,k3].Nodup) (hl0:0<H'.length) (hl1:k1<H'.length) (hl2:k2<H'.length) (hl3:k3<H'.length) (hr:r.bd 0=true) (h:Q [stE S] (.val r)):qc9 Q H' (.val r) :=
 ⟨stH S,[0,k1,k2,k3],rfl,by simp,hn,⟨⟨hl0,by simp only[Ent.bd,AV.bds,AV.bd,qjg];rfl,by rw[h0];simp only[Ent.ren,AV.rens,AV.ren,qh8];rfl⟩,⟨hl1,rfl,by rw[h1];rfl⟩,⟨hl2,rfl,by rw[h2];rfl⟩,⟨hl3,rfl,by rw[h3];rfl⟩,trivial⟩,qgg (Nat.zero_le _) _ hr,h⟩
theorem q2g{Q:List Ent->VO->Prop}{L:List Ent}{S:SS}{r:AV}(hr:r.bd 0=true)(h:Q [stE S] (.val r)):qc9 Q (stH S++L) (.val r) :=
 qvc 1 2 3 rfl rfl rfl rfl (by simp) (by simp) (by simp) (by simp) (by simp) hr h

theorem qdk{Q:List Ent->VO->Prop}{H' L:List Ent}{S:SS}{r:AV}(hH:H'=stH S++L)(hr:r.bd 0=true)(h:Q [stE S] (.val r)):qc9 Q H' (.val r):=by subst hH;exact q2g hr h
/-! maps -/

def varS(S:SS):SS:={ S with vars:=IntKind.i64.wrap (S.vars+1) }
theorem q5v(S:SS):VM Tryz.prog 21 (stE S) (stE (varS S)) [.ptr 0 0] (encY (.mk [] (IntKind.i64.wrap (0-IntKind.i64.wrap (S.vars+1))) [])):=by
 refine qek ?_ (by simp[AV.bds,AV.bd])
 refine qd c0fb 4 (by simp) (by simp) ?_
 repeat'(first|refine vs_ ?_|((first|refine vr_ ?_|(refine cs_ ?_ ?_<;>intro hc)|refine cj_ ?_|simp (disch:=omega) only[qa,qc])<;>try refine ev_ ?_)|with_reducible exact ti_)
 exact qdk (S:=varS S) (L:=[]) rfl rfl ⟨rfl,rfl⟩
def qbk0(S:SS)(e pos:Int):SS:=if S.err=0 then { S with err:=if e=0 then 1 else e,pos:=pos } else S
theorem q56(S:SS)(e pos:Int):VM Tryz.prog 17 (stE S) (stE (qbk0 S e pos)) [.ptr 0 0,.int .i64 e,.int .i64 pos] (.bool false):=by
 refine qek ?_ (by simp[AV.bds,AV.bd])
 refine qd c0fc 4 (by simp) (by simp) ?_
 unfold qbk0
 by_cases h1:S.err=0
 ·rw[if_pos h1]
  by_cases h2:e=0
  ·rw[if_pos h2]
   repeat'(first|refine vs_ ?_|(refine vr_ ?_<;>try simp only[h1,h2,go_sem,↓reduceIte])|((first|(refine cs_ ?_ ?_<;>intro hc)|refine cj_ ?_)<;>try refine ev_ ?_)|with_reducible exact ti_)
   exact qdk (S:={ S with err:=1,pos:=pos }) (L:=[]) rfl rfl ⟨rfl,rfl⟩
  ·rw[if_neg h2]
   repeat'(first|refine vs_ ?_|(refine vr_ ?_<;>try simp only[h1,h2,go_sem,↓reduceIte])|((first|(refine cs_ ?_ ?_<;>intro hc)|refine cj_ ?_)<;>try refine ev_ ?_)|with_reducible exact ti_)
   exact qdk (S:={ S with err:=e,pos:=pos }) (L:=[]) rfl rfl ⟨rfl,rfl⟩
 ·rw[if_neg h1]
  repeat'(first|refine vs_ ?_|(refine vr_ ?_<;>try simp only[h1,go_sem,↓reduceIte])|((first|(refine cs_ ?_ ?_<;>intro hc)|refine cj_ ?_)<;>try refine ev_ ?_)|with_reducible exact ti_)
  exact qdk (S:=S) (L:=[]) rfl rfl ⟨rfl,rfl⟩
theorem qqy(S:SS):VM Tryz.prog 19 (stE S) (stE S) [.ptr 0 0] (.tup [.int .i64 S.pos,.int .i64 S.err]):=by
 refine qek ?_ (by simp[AV.bds,AV.bd])
 refine qd c0es 4 (by simp) (by simp) ?_
 repeat'(first|refine vs_ ?_|((first|refine vr_ ?_|(refine cs_ ?_ ?_<;>intro hc)|refine cj_ ?_)<;>try refine ev_ ?_)|with_reducible exact ti_)
 exact qdk (S:=S) (L:=[]) rfl rfl ⟨rfl,rfl⟩
end Go.Proofs.YtkenggenkmfopaaGreat
