/- A text of this proof. -/
import Derived.Test.YtkenggenkmfopaaGreatNbd
import Derived.Test.YtkenggenkmfopaaGreatNbe
import Derived.Test.YtkenggenkmfopaaGreatNbg
set_option linter.unusedVariables false
set_option linter.unusedSimpArgs false

/- the state: its entries; the plain methods -/
set_option maxRecDepth 4000
namespace Go.Proofs.YtkenggenkmfopaaGreat
open Go Go.RowKit Go.V

structure SS where
 vars:Int
 fixed:Int
 names:Int
 holes:Int
 known:List Pr
 waits:List Wt
 fills:List (Int×Tm)
 free:List (Int×Int)
 pos:Int
 err:Int
def qe0 (l:List (Int×Tm)):List (Int×AV):=l.map fun p=>(p.1,encT p.2)
def qei (l:List (Int×Int)):List (Int×AV):=l.map fun p=>(p.1,.int .i64 p.2)
abbrev stc (S:SS):List AV:=[.int .i64 S.vars,.int .i64 S.fixed,.int .i64 S.names,.int .i64 S.holes,.ptr 1 0,.sl 6 (qx S.waits),.opq 2,.opq 3,.int .i64 S.pos,.int .i64 S.err]
abbrev stH (S:SS):List Ent:=[.blk (stc S),subE S.known,mapE (qe0 S.fills),mapE (qei S.free)]
abbrev stE (S:SS):Ent:=bun (stH S)
theorem qps {Q:List Ent->VO->Prop} {H':List Ent} {S:SS} {r:AV} (k1 k2 k3:Nat)
 (h0:ent H' 0 = .blk [.int .i64 S.vars,.int .i64 S.fixed,.int .i64 S.names,.int .i64 S.holes,.ptr k1 0,.sl 6 (qx S.waits),.opq k2,.opq k3,.int .i64 S.pos,.int .i64 S.err])
 (h1:ent H' k1 = subE S.known) (h2:ent H' k2 = mapE (qe0 S.fills)) (h3:ent H' k3 = mapE (qei S.free))
 (hn:[0,k1,k2,k3].Nodup) (hl0:0 < H'.length) (hl1:k1 < H'.length) (hl2:k2 < H'.length) (hl3:k3 < H'.length) (hr:r.bd 0 = true) (h:Q [stE S] (.val r)):qci Q H' (.val r) :=
 ⟨stH S,[0,k1,k2,k3],rfl,by simp,hn,⟨⟨hl0,by simp only [Ent.bd,AV.bds,AV.bd,qb7];rfl,by rw [h0];simp only [Ent.ren,AV.rens,AV.ren,qcb];rfl⟩,⟨hl1,rfl,by rw [h1];rfl⟩,⟨hl2,rfl,by rw [h2];rfl⟩,⟨hl3,rfl,by rw [h3];rfl⟩,trivial⟩,qki (Nat.zero_le _) _ hr,h⟩
theorem qu0 {Q:List Ent->VO->Prop} {L:List Ent} {S:SS} {r:AV} (hr:r.bd 0 = true) (h:Q [stE S] (.val r)):qci Q (stH S ++ L) (.val r) :=
 qps 1 2 3 rfl rfl rfl rfl (by simp) (by simp) (by simp) (by simp) (by simp) hr h

theorem qt {Q:List Ent->VO->Prop} {H' L:List Ent} {S:SS} {r:AV} (hH:H' = stH S ++ L) (hr:r.bd 0 = true) (h:Q [stE S] (.val r)):qci Q H' (.val r):=by subst hH;exact qu0 hr h
/-! maps -/
def qh2 {α:Type}:List (Int×α)->Int->Option (Nat×α)
 | [],_=>none
 | (a,v) :: r,k=>if a = k then some (0,v) else (qh2 r k).map fun p=>(p.1 + 1,p.2)
def updG {α:Type} (l:List (Int×α)) (k:Int) (v:α):List (Int×α):=match qh2 l k with
 | some (j,_)=>l.set j (k,v)
 | none=>l ++ [(k,v)]
def delG {α:Type} (l:List (Int×α)) (k:Int):List (Int×α):=match qh2 l k with
 | some (j,_)=>l.eraseIdx j
 | none=>l
theorem qfa {α:Type} (f:α->AV):∀ (l:List (Int×α)) (k:Int),qek (l.map fun p=>(p.1,f p.2)) k = (qh2 l k).map fun p=>(p.1,f p.2)
 | [],k=>rfl
 | (a, v) :: r, k => by
   rw [List.map_cons,qek,qh2]
   split
   ·rfl
   ·rw [qfa f r k,Option.map_map,Option.map_map];rfl
theorem qtv {α:Type} (f:α->AV) (l:List (Int×α)) (k:Int) (v:α):updM (l.map fun p=>(p.1,f p.2)) k (f v) = (updG l k v).map fun p=>(p.1,f p.2):=by
 unfold updM updG
 rw [qfa]
 cases qh2 l k with
 | none=>simp
 | some p=>obtain ⟨j,x⟩:=p;simp [List.map_set]
theorem qg5 {α β:Type} (g:α->β):∀ (l:List α) (j:Nat),(l.map g).eraseIdx j = (l.eraseIdx j).map g
 | [],j=>by simp
 | x :: r,0=>rfl
 | x :: r, j + 1 => by
   show g x :: (r.map g).eraseIdx j = g x :: (r.eraseIdx j).map g
   rw [qg5 g r j]
theorem q6m {α:Type} (f:α->AV) (l:List (Int×α)) (k:Int):delM (l.map fun p=>(p.1,f p.2)) k = (delG l k).map fun p=>(p.1,f p.2):=by
 unfold delM delG
 rw [qfa]
 cases qh2 l k with
 | none=>simp
 | some p=>obtain ⟨j,x⟩:=p;exact qg5 _ l j
section
variable {H:List Ent} {raws:List AV} {K:Md->AV->List Ent->Prop}
theorem qbq6 (i:Nat) {S:List (Int×Int)} {k v:Int} (hq:K (.meth i (mapE (qei S)) (mapE (qei (updG S k v)))) (.tup []) (H.set i (mapE (qei (updG S k v))))) (he:ent H i = mapE (qei S):=by rfl):DApp Tryz.prog H (mkV (.upd 95)) [.opq i,.int .i64 k,.int .i64 v] raws K:=by
 have hu:updM (qei S) k (.int .i64 v) = qei (updG S k v):=qtv (AV.int .i64) S k v
 rw [← hu] at hq
 exact .inr (.inr (.inl ⟨_,i,_,_,⟨(by intro h;cases h),he,fun H₀ h0=>q8a rfl rfl rfl h0 ⟨rfl,rfl⟩⟩,hq⟩))
theorem qbt3 (i:Nat) {S:List (Int×Tm)} {k:Int} {v:Tm} (hq:K (.meth i (mapE (qe0 S)) (mapE (qe0 (updG S k v)))) (.tup []) (H.set i (mapE (qe0 (updG S k v))))) (he:ent H i = mapE (qe0 S):=by rfl):DApp Tryz.prog H (mkV (.upd 94)) [.opq i,.int .i64 k,encT v] raws K:=by
 have hu:updM (qe0 S) k (encT v) = qe0 (updG S k v):=qtv encT S k v
 rw [← hu] at hq
 exact .inr (.inr (.inl ⟨_,i,_,_,⟨(by intro h;cases h),he,fun H₀ h0=>q8a rfl rfl (qcs 0 v) h0 ⟨rfl,rfl⟩⟩,hq⟩))
end

def varS (S:SS):SS:={ S with vars:=IntKind.i64.wrap (S.vars + 1) }
theorem q8l (S:SS):VM Tryz.prog 21 (stE S) (stE (varS S)) [.ptr 0 0] (encY (.mk [] (IntKind.i64.wrap (0 - IntKind.i64.wrap (S.vars + 1))) [])):=by
 refine qcd ?_ (by simp [AV.bds,AV.bd])
 refine qc c0b 4 (by simp) (by simp) ?_
 repeat' (first | refine vs_ ?_ | ((first | refine vr_ ?_ | (refine cs_ ?_ ?_<;>intro hc) | refine cj_ ?_ | simp (disch:=omega) only [encs_getN,qb])<;>(try refine ev_ ?_)) | with_reducible exact ti_)
 exact qt (S:=varS S) (L:=[]) rfl rfl ⟨rfl,rfl⟩
def fixS (S:SS):SS:={ S with fixed:=IntKind.i64.wrap (S.fixed + 1) }
theorem qbtw (S:SS):VM Tryz.prog 22 (stE S) (stE (fixS S)) [.ptr 0 0] (encY (.mk (33 :: digI (IntKind.i64.wrap (IntKind.i64.wrap (S.fixed + 1) - 1))) 0 [])):=by
 refine qcd ?_ (by simp [AV.bds,AV.bd])
 refine qc c0c 4 (by simp) (by simp) ?_
 repeat' (first | refine vs_ ?_ | ((first | refine vr_ ?_ | refine qa (qeb _) fun _=>?_ | (refine cs_ ?_ ?_<;>intro hc) | refine cj_ ?_ | simp (disch:=omega) only [encs_getN,qb])<;>(try refine ev_ ?_)) | with_reducible exact ti_)
 refine ⟨by have:=qni (qff .i64 (IntKind.i64.wrap (S.fixed + 1) - 1));have hml:maxLen = 9223372036854775807:=rfl;omega,?_⟩
 repeat' (first | refine vs_ ?_ | ((first | refine vr_ ?_ | (refine cs_ ?_ ?_<;>intro hc) | refine cj_ ?_ | simp (disch:=omega) only [encs_getN,qb])<;>(try refine ev_ ?_)) | with_reducible exact ti_)
 exact qt (S:=fixS S) (L:=[]) rfl rfl ⟨rfl,rfl⟩
def qbxz (S:SS):SS:={ S with names:=IntKind.i64.wrap (S.names + 1) }
theorem qw5 (S:SS):VM Tryz.prog 23 (stE S) (stE (qbxz S)) [.ptr 0 0] (.str (35 :: digI (IntKind.i64.wrap (IntKind.i64.wrap (S.names + 1) - 1)))):=by
 refine qcd ?_ (by simp [AV.bds,AV.bd])
 refine qc c0d 4 (by simp) (by simp) ?_
 repeat' (first | refine vs_ ?_ | ((first | refine vr_ ?_ | refine qa (qeb _) fun _=>?_ | (refine cs_ ?_ ?_<;>intro hc) | refine cj_ ?_ | simp (disch:=omega) only [encs_getN,qb])<;>(try refine ev_ ?_)) | with_reducible exact ti_)
 refine ⟨by have:=qni (qff .i64 (IntKind.i64.wrap (S.names + 1) - 1));have hml:maxLen = 9223372036854775807:=rfl;omega,?_⟩
 repeat' (first | refine vs_ ?_ | ((first | refine vr_ ?_ | (refine cs_ ?_ ?_<;>intro hc) | refine cj_ ?_ | simp (disch:=omega) only [encs_getN,qb])<;>(try refine ev_ ?_)) | with_reducible exact ti_)
 exact qt (S:=qbxz S) (L:=[]) rfl rfl ⟨rfl,rfl⟩
def qbfs (S:SS) (e pos:Int):SS:=if S.err = 0 then { S with err:=if e = 0 then 1 else e,pos:=pos } else S
theorem qbhi (S:SS) (e pos:Int):VM Tryz.prog 17 (stE S) (stE (qbfs S e pos)) [.ptr 0 0,.int .i64 e,.int .i64 pos] (.bool false):=by
 refine qcd ?_ (by simp [AV.bds,AV.bd])
 refine qc c0g 4 (by simp) (by simp) ?_
 unfold qbfs
 by_cases h1:S.err = 0
 ·rw [if_pos h1]
  by_cases h2:e = 0
  ·rw [if_pos h2]
   repeat' (first | refine vs_ ?_ | ((first | refine vr_ ?_ | fail)<;>(try simp only [h1,h2,go_sem,↓reduceIte])) | ((first | (refine cs_ ?_ ?_<;>intro hc) | refine cj_ ?_ | fail)<;>(try refine ev_ ?_)) | with_reducible exact ti_)
   exact qt (S:={ S with err:=1,pos:=pos }) (L:=[]) rfl rfl ⟨rfl,rfl⟩
  ·rw [if_neg h2]
   repeat' (first | refine vs_ ?_ | ((first | refine vr_ ?_ | fail)<;>(try simp only [h1,h2,go_sem,↓reduceIte])) | ((first | (refine cs_ ?_ ?_<;>intro hc) | refine cj_ ?_ | fail)<;>(try refine ev_ ?_)) | with_reducible exact ti_)
   exact qt (S:={ S with err:=e,pos:=pos }) (L:=[]) rfl rfl ⟨rfl,rfl⟩
 ·rw [if_neg h1]
  repeat' (first | refine vs_ ?_ | ((first | refine vr_ ?_ | fail)<;>(try simp only [h1,go_sem,↓reduceIte])) | ((first | (refine cs_ ?_ ?_<;>intro hc) | refine cj_ ?_ | fail)<;>(try refine ev_ ?_)) | with_reducible exact ti_)
  exact qt (S:=S) (L:=[]) rfl rfl ⟨rfl,rfl⟩
theorem qbia (S:SS):VM Tryz.prog 19 (stE S) (stE S) [.ptr 0 0] (.tup [.int .i64 S.pos,.int .i64 S.err]):=by
 refine qcd ?_ (by simp [AV.bds,AV.bd])
 refine qc c0h 4 (by simp) (by simp) ?_
 repeat' (first | refine vs_ ?_ | ((first | refine vr_ ?_ | (refine cs_ ?_ ?_<;>intro hc) | refine cj_ ?_ | fail)<;>(try refine ev_ ?_)) | with_reducible exact ti_)
 exact qt (S:=S) (L:=[]) rfl rfl ⟨rfl,rfl⟩
def useH (S:SS):Int:=IntKind.i64.wrap (IntKind.i64.wrap (S.holes + 1) - 1)
def useS (S:SS):SS:={ S with holes:=IntKind.i64.wrap (S.holes + 1),free:=updG S.free (useH S) 1 }
theorem q79 (S:SS):VM Tryz.prog 26 (stE S) (stE (useS S)) [.ptr 0 0] (.int .i64 (useH S)):=by
 refine qcd ?_ (by simp [AV.bds,AV.bd])
 refine qc c0j 4 (by simp) (by simp) ?_
 repeat' (first | refine vs_ ?_ | ((first | refine vr_ ?_ | refine qbq6 3 ?_ | (refine cs_ ?_ ?_<;>intro hc) | refine cj_ ?_ | simp (disch:=omega) only [encs_getN,qb])<;>(try refine ev_ ?_)) | with_reducible exact ti_)
 all_goals exact qt (S:=useS S) (L:=[]) rfl rfl ⟨rfl,rfl⟩
def cutN (S:SS) (n:Int):Int:=if S.waits.length < (if 0 > n then 0 else n) then S.waits.length else (if 0 > n then 0 else n)
end Go.Proofs.YtkenggenkmfopaaGreat
