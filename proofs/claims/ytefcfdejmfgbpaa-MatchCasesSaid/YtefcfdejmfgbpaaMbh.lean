/- Texts of this proof, joined. -/
import Derived.Test.YtefcfdejmfgbpaaMbc
set_option linter.unusedVariables false
set_option linter.unusedSimpArgs false

/- substitutions: put into a type -/
namespace Go.Proofs.Ytefcfdejmfgbpaa
open Go Go.RowKit Go.V

/-! a receiver: there, or none -/
def svA (b:Bool) (k:Nat):AV:=if b then .ptr k 0 else .nilp
theorem qn3 (b:Bool) (k:Nat) (σ:Nat->Nat):(svA b k).ren σ = svA b (σ k):=by cases b<;>rfl
theorem qtr (b:Bool) (k n:Nat) (h:k < n):(svA b k).bd n = true:=by
 cases b
 ·rfl
 ·show decide (k < n) = true
  exact decide_eq_true h
theorem qzv (b:Bool) (k:Nat):(svA b k).leaf = true:=by cases b<;>rfl
theorem qvh (b:Bool) (k:Nat):(svA b k).cells = [svA b k]:=by cases b<;>rfl
theorem q48 (b:Bool) (k:Nat):(svA b k).isAgg = false:=by cases b<;>rfl
attribute [go_sem] qn3 qzv qvh q48
attribute [go_sem] qtr
abbrev q06:Ent:=.cus (fun _ _ _=>True)
theorem q86 {P:Program} {f:FuncId} {xs:List AV} {r:AV} (h:VM P f q06 q06 xs r) (ha:AV.bds 0 xs = true) (hr:r.bd 0 = true):qo P f xs r:=by
 refine ⟨⟨h.1,fun w M G vs hst hv=>?_⟩,ha,hr⟩
 have hlen:=hst.len
 obtain rfl:G = []:=by
  cases G with
  | nil=>rfl
  | cons g r=>simp at hlen
 let g0:Gh:={ blk:=0,cap:=0,fp:=fun _=>False }
 have hst':St w M ([] ++ [g0]) ([] ++ [q06]):=qfy (g:=g0) hst (Nat.le_refl _) (fun _ _=>rfl) (fun _ _ h=>h) (fun _ _ h=>.inl h) hst.Mlt (fun b hb=>False.elim hb) ⟨trivial,fun _ _ _ _ _ _=>trivial⟩
 have hv':VRs w M [g0] xs vs:=by
  have:=qbu (σ:=id) (m:=0) (G':=[g0]) (fun i g hi hg=>by omega) (fun b o h=>⟨h,rfl⟩) xs vs ha hv
  rwa [qm (σ:=id) (m:=0) (fun _ _=>rfl) xs ha] at this
 have hno:∀ b,¬ own [g0] b:=fun b ⟨j,gj,hj,hf⟩=>by
  cases j with
  | zero=>simp at hj;subst hj;exact hf
  | succ j=>simp at hj
 refine CallsIn.mono (h.2 w M [g0] vs hst' hv') fun e w' ho=>?_
 cases e with
 | returned x =>
   obtain ⟨M',G',H',v,⟨rfl,hvr⟩,hx,hs,hv2⟩:=ho
   obtain rfl:v = r:=by simpa using hvr
   refine ⟨M',[],[],v,⟨rfl,rfl⟩,⟨hx.os,hx.tape,hx.output,hx.size,fun i g h=>by simp at h,hx.le,fun b hb _=>hx.out b hb (hno b),fun b hb=>?_,fun b o hm=>?_⟩,⟨rfl,fun i g e h=>by simp at h,fun i j g g' b h=>by simp at h,fun i g b h=>by simp at h,hs.Mlt,hs.one⟩,?_⟩
   ·obtain ⟨j,gj,hj,_⟩:=hb
    simp at hj
   ·rcases hx.Mnew b o hm with h | h | h
    ·exact .inl h
    ·exact absurd h (hno b)
    ·exact .inr (.inr h)
   ·have:=qjl (σ:=id) (m:=0) (G':=[]) (fun i g hi hg=>by omega) (fun b o h=>⟨h,rfl⟩) v x hr hv2
    rwa [ren_same (σ:=id) (m:=0) (fun _ _=>rfl) v hr] at this
 | panicked ch =>
   obtain ⟨M',G',H',v,x,⟨_,hvr⟩,_⟩:=ho
   cases hvr
 | outgrown=>exact ho
/-! runs of it -/
def brun (s:List Pr):List Ty->Int->Int->Int×List Ty
 | [],b,_=>(b,[])
 | x :: r,b,k=>((brun s r (bput s x b k).1 k).1,(bput s x b k).2 :: (brun s r (bput s x b k).1 k).2)
theorem qpy (s:List Pr):∀ (l:List Ty) (b k:Int),(brun s l b k).2.length = l.length
 | [],_,_=>rfl
 | x :: r,b,k=>by rw [brun,List.length_cons,List.length_cons,qpy s r]
theorem qm6 (s:List Pr) (x:Ty) (k:Int):∀ (l:List Ty) (b:Int),brun s (l ++ [x]) b k = ((bput s x (brun s l b k).1 k).1,(brun s l b k).2 ++ [(bput s x (brun s l b k).1 k).2])
 | [],b=>by simp [brun]
 | y :: r,b=>by rw [List.cons_append,brun,qm6 s x k r,brun];rfl
theorem qie (s:List Pr) (k:Int) (r:List Ty):∀ (l:List Ty) (b:Int),(∀ j,j < l.length->0≤(brun s (l.take j) b k).1)->qb7 s (l ++ r) b k = ((qb7 s r (brun s l b k).1 k).1,(qb7 s r (brun s l b k).1 k).2.map ((brun s l b k).2 ++ ·))
 | [],b,_=>by simp [brun]
 | x :: l, b, h => by
   have h0:=h 0 (by simp)
   rw [List.take_zero,brun] at h0
   have h1:=qie s k r l (bput s x b k).1 fun j hj=>by
    have:=h (j + 1) (by simpa using hj)
    rwa [List.take_succ_cons,brun] at this
   rw [List.cons_append,qb7,if_neg (by omega),h1,brun]
   simp only [Option.map_map]
   rfl
theorem qvt {s:List Pr} {l:List Ty} {b k:Int} (h:∀ j,j < l.length->0≤(brun s (l.take j) b k).1):qb7 s l b k = ((brun s l b k).1,some (brun s l b k).2):=by
 have:=qie s k [] l b h
 rw [List.append_nil] at this
 rw [this,qb7];simp
theorem qq4 {s:List Pr} {l:List Ty} {b k:Int} {i:Nat} (hi:i < l.length) (h:∀ j,j < i->0≤(brun s (l.take j) b k).1) (hn:(brun s (l.take i) b k).1 < 0):qb7 s l b k = ((brun s (l.take i) b k).1,none):=by
 have h2:(l.take i).length = i:=by rw [List.length_take];omega
 have:=qie s k (l.drop i) (l.take i) b fun j hj=>by
  rw [h2] at hj
  rw [List.take_take,Nat.min_eq_left (by omega)]
  exact h j hj
 rw [List.take_append_drop] at this
 rw [this,List.drop_eq_getElem_cons hi,qb7,if_pos hn];rfl
theorem qp1 {s:List Pr} (hs:okR s) (k:Int):∀ (l:List Ty) (b:Int),(∀ j,j < l.length->0≤(brun s (l.take j) b k).1)->-4096≤b->b≤4096->-4096≤(brun s l b k).1∧(brun s l b k).1≤4096
 | [],b,_,h0,h1=>⟨h0,h1⟩
 | x :: r, b, h, h0, h1 => by
   have hb:=h 0 (by simp)
   have hb:0≤b:=hb
   have:=qo1 hs x b k hb h1
   rw [brun]
   exact qp1 hs k r _ (fun j hj=>by
    have:=h (j + 1) (by simpa using hj)
    rwa [List.take_succ_cons,brun] at this) this.1 this.2
def gE (o:List Ty) (n:Nat):List AV:=qn o ++ List.replicate (n - o.length) zY
theorem qbba {o:List Ty} {n:Nat} (h:o.length≤n):(gE o n).length = n:=by rw [gE,List.length_append,qbh,List.length_replicate];omega
theorem gE_0 (n:Nat):gE [] n = List.replicate n zY:=rfl
theorem qbc1 (o:List Ty):gE o o.length = qn o:=by rw [gE,Nat.sub_self,List.replicate_zero,List.append_nil]
theorem qbbg {o:List Ty} {n:Nat} (h:o.length < n) (x:Ty):(gE o n).set o.length (encY x) = gE (o ++ [x]) n:=by
 obtain ⟨k,hk⟩:∃ k,n - o.length = k + 1:=⟨n - o.length - 1,by omega⟩
 have hk2:n - (o ++ [x]).length = k:=by rw [List.length_append,List.length_singleton];omega
 rw [gE,gE,hk,hk2,List.replicate_succ,← qg5,List.set_append_right _ _ (by rw [qbh];omega),qbh,Nat.sub_self,List.set_cons_zero,List.append_assoc]
 rfl
theorem qtf (k:Nat) (o:List Ty) (n:Nat):AV.bds k (gE o n) = true:=by
 rw [gE,qjg,qb0,qek]
 simp [zY,AV.bd,AV.bds]
theorem qpo (σ:Nat->Nat) (o:List Ty) (n:Nat):AV.rens σ (gE o n) = gE o n:=qm (m:=0) (fun i hi=>by omega) _ (qtf 0 o n)
attribute [go_sem] qtf qpo
set_option maxRecDepth 4000

theorem qgu {f:FuncId} {args:List AV} {r r':AV} (h:qo Try.prog f args r) (e:r = r'):qo Try.prog f args r':=e ▸ h
abbrev blE (b:Bool) (c:Nat) (lf:Int):Ent:=.blk [svA b c,.int .i64 lf]
theorem qbbj (b:Bool) (c:Nat) (lf:Int) (n:Nat) (h:c < n):(blE b c lf).bd n = true:=by simp only [blE,Ent.bd,AV.bds,qtr b c n h,AV.bd,Bool.and_true]
theorem qt0 (b:Bool) (c:Nat) (lf:Int) (σ:Nat->Nat):(blE b c lf).ren σ = blE b (σ c) lf:=by simp only [blE,Ent.ren,AV.rens,qn3,AV.ren]
abbrev putF:FuncId:=16
def qbaw (R:World->(Nat->Nat->Prop)->Gh->Prop) (b:Bool) (t:Ty) (lf k lf':Int) (t':Ty):Prop :=
 VCalls Try.prog putF [blE b 1 lf,.cus R] [.ptr 0 0,encY t,.int .i64 k] fun H' o=>H' = [blE b 1 lf',.cus R]∧o = .val (encY t')
section
variable {R:World->(Nat->Nat->Prop)->Gh->Prop} {b:Bool} {s:List Pr} {t t':Ty} {lf k lf':Int} {H:List Ent} {Q:List Ent->VO->Prop}
theorem qnd (a c:Nat) (h:qbaw R b t lf k lf' t') (hac:a≠c) (hq:Q (H.set a (blE b c lf')) (.val (encY t'))) (h0:ent H a = blE b c lf:=by rfl) (h1:ent H c = .cus R:=by rfl) (ha:a < H.length:=by simp) (hc:c < H.length:=by simp) :
 VApp Try.prog H (.fn putF [] []) [.ptr a 0,encY t,.int .i64 k] Q:=by
 refine qcq ?_
 rw [List.nil_append,List.append_nil]
 refine qbv [a,c] h (by simp [hac]) ⟨⟨ha,qbbj _ _ _ _ (by simp),by rw [h0,qt0];rfl⟩,⟨hc,rfl,by rw [h1];rfl⟩,trivial⟩ (by simp only [AV.bds,AV.bd,qbd,Bool.and_true];rfl) (by simp only [AV.rens,AV.ren,qkc];rfl) fun H1 o ho=>?_
 obtain ⟨rfl,rfl⟩:=ho
 have e1:qiu H [a,c] [blE b 1 lf',.cus R] = H.set a (blE b c lf'):=by
  show ((H.set a ((blE b 1 lf').ren _)).set c (.cus R)) ++ [] = _
  rw [List.append_nil,qt0]
  have h1':ent (H.set a (blE b (sg' [a,c] H.length 1) lf')) c = .cus R:=by
   rw [← h1]
   exact qri hac
  exact qf4 h1' (by simpa using hc)
 rw [e1]
 simp only [VO.ren,qkc]
 exact hq
theorem q6c (hG:VM Try.prog 12 (.cus R) (.cus R) [svA b 0,.int .i64 k] (getV s k)) {K:Md->AV->List Ent->Prop} {raws:List AV} (hq:K (.meth 1 (.cus R) (.cus R)) (getV s k) H) (h1:ent H 1 = .cus R:=by rfl) (hl:1 < H.length:=by simp) :
 DApp Try.prog H (.fn 12 [] []) [svA b 1,.int .i64 k] raws K:=by
 refine .inr (.inr (.inl ⟨getV s k,1,.cus R,.cus R,⟨by simp,h1,fun H₀ h0=>?_⟩,?_⟩))
 ·have hl0:=(List.getElem?_eq_some_iff.1 (qs h0 (by simp))).1
  exact qbj 1 hG ⟨rfl,rfl⟩ rfl rfl hl0 h0 (q72 0 _ _) (by simp only [AV.rens,qn3,AV.ren];rfl) (by simp only [AV.bds,qtr b 0 1 (by omega),AV.bd,Bool.and_true])
 ·rw [qf4 h1 hl]
  exact hq
end
theorem qq1 {l:List Ty} {i:Nat} (h:i < l.length):l.take (i + 1) = l.take i ++ [l.getD i Y0]:=by
 rw [List.take_add_one,List.getD_eq_getElem?_getD,List.getElem?_eq_getElem h];rfl
def plSt (R:World->(Nat->Nat->Prop)->Gh->Prop) (b:Bool) (s:List Pr) (t:Ty) (lf k:Int) (i:Nat):AF×List Ent :=
 (⟨[(0, .ptr 0 0), (2, .int .i64 k), (4, .ptr 2 0), (6, .ptr 3 0), (9, .row 4 t.args.length), (57, .int .i64 t.args.length), (58, .int .i64 i)], []⟩,
   [blE b 1 (brun s (t.args.take i) (lf - 1) (k + 1)).1,.cus R,.blk (yc t),.blk [.str [],.int .i64 0,.nils],.mrow 3 (gE (brun s (t.args.take i) (lf - 1) (k + 1)).2 t.args.length)])
theorem q2t {R:World->(Nat->Nat->Prop)->Gh->Prop} {b:Bool} {s:List Pr} (hG:∀ v,VM Try.prog 12 (.cus R) (.cus R) [svA b 0,.int .i64 v] (getV s v)) (hs:okR s) :
 ∀ t,bare t->szY t≤20000->∀ lf k:Int,0≤lf->lf≤4096->0≤k->k + dpY t≤1000->qbaw R b t lf k (bput s t lf k).1 (bput s t lf k).2:=by
 refine Ty.ind fun t ih hb hz lf k h0 h1 h2 h3=>?_
 refine qh c0cb 2 (by simp) (by simp) ?_
 rw [q30]
 rw [q1r] at hb
 have hsz:=qhr t
 have hal:=qk5 t.args
 have w1:IntKind.i64.wrap (lf - 1) = lf - 1:=qw (by omega) (by omega)
 by_cases hc:t.con = []
 ·have hcd:decide (t.con = []) = true:=decide_eq_true hc
  have hargs:=hb.1 hc
  rw [if_pos hc]
  cases hlk:qp t.var s with
  | some u =>
    have hu:=qpv hs hlk
    have hg:getV s t.var = .tup [encY u,.bool true]:=by rw [getV,hlk];rfl
    have hS:qo Try.prog 26 [encY u] (.int .i64 (szY u)):=qgu (qqu u) (by rw [qmf u 0 1 (by omega) (by omega)];simp)
    have hD:qo Try.prog 27 [encY u] (.int .i64 (dpY u)):=qgu (qoe u) (by rw [qme u 0 1 (by omega) (by omega) (by omega)];simp only;congr 1;omega)
    have hcp:=qd3 u (by omega)
    have w2:IntKind.i64.wrap (lf - szY u) = lf - szY u:=qw (by omega) (by omega)
    have w3:IntKind.i64.wrap (k + dpY u) = k + dpY u:=qw (by omega) (by omega)
    simp only
    by_cases hd:101 < k + dpY u
    ·rw [if_pos hd]
     have hdd:decide (101 < k + (dpY u:Int)) = true:=decide_eq_true hd
     repeat' (first | refine vs_ ?_ | ((first | refine vr_ ?_ | fail)<;>(try simp only [hcd,hg,w2,w3,hdd,go_sem,↓reduceIte])) | ((first | simp (disch:=omega) only [hg] | (refine cs_ ?_ ?_<;>intro hc) | refine cj_ ?_ | simp (disch:=omega) only [encs_getN,qc] | refine qa hS fun _=>?_ | refine qa hD fun _=>?_ | refine qa hcp fun _=>?_ | refine q6c (hG _) ?_ | refine qd hS ?_ | refine qd hD ?_ | refine qd hcp ?_)<;>(try refine ev_ ?_)) | with_reducible exact ti_)
    ·rw [if_neg hd]
     have hdd:decide (101 < k + (dpY u:Int)) = false:=decide_eq_false hd
     repeat' (first | refine vs_ ?_ | ((first | refine vr_ ?_ | fail)<;>(try simp only [hcd,hg,w2,w3,hdd,go_sem,↓reduceIte])) | ((first | simp (disch:=omega) only [hg] | (refine cs_ ?_ ?_<;>intro hc) | refine cj_ ?_ | simp (disch:=omega) only [encs_getN,qc] | refine qa hS fun _=>?_ | refine qa hD fun _=>?_ | refine qa hcp fun _=>?_ | refine q6c (hG _) ?_ | refine qd hS ?_ | refine qd hD ?_ | refine qd hcp ?_)<;>(try refine ev_ ?_)) | with_reducible exact ti_)
  | none =>
    have hg:getV s t.var = .tup [encY Y0,.bool false]:=by rw [getV,hlk];rfl
    have hbp:qb7 s t.args (lf - 1) (k + 1) = (lf - 1,some []):=by rw [hargs,qb7]
    rw [hbp]
    have hal0:t.args.length = 0:=by rw [hargs];rfl
    repeat' (first | refine vs_ ?_ | ((first | refine vr_ ?_ | fail)<;>(try simp only [hcd,hg,w1,go_sem,↓reduceIte])) | ((first | simp (disch:=omega) only [hg] | (refine cs_ ?_ ?_<;>intro hc) | refine cj_ ?_ | simp (disch:=omega) only [encs_getN,qc] | refine q6c (hG _) ?_)<;>(try refine ev_ ?_)) | with_reducible exact ti_)
    refine qbi (S:=Unit) (fun _=>True) (fun _=>(⟨[(0,.ptr 0 0),(2,.int .i64 k),(4,.ptr 2 0),(6,.ptr 3 0),(9,.row 5 t.args.length),(57,.int .i64 t.args.length),(58,.int .i64 (0:Nat))],[]⟩,[blE b 1 (lf - 1),.cus R,.blk (yc t),.blk [.str [],.int .i64 0,.nils],.blk (yc Y0),.mrow 3 (gE [] t.args.length)])) (fun _=>0) ?_ fun x hx=>?_
    ·refine qu () [0,1,2,3,4,5] trivial rfl (by simp) ?_ ?_ ?_<;>simp only [gE_0,zY]<;>(try refine ev_ ?_)<;>(try with_reducible exact ti_)<;>(try simp (disch:=omega) only [qc,and_true,true_and])
     all_goals
      rw [show List.replicate t.args.length (AV.agg [AV.str [],AV.int IntKind.i64 0,AV.nils]) = gE [] t.args.length from rfl]
      exact ⟨qtf _ _ _,by rw [qpo]⟩
    ·rw [show gE [] t.args.length = qn [] by rw [hal0];rfl]
     refine qin 5 rfl (qf1 _) ?_
     repeat' (first | refine vs_ ?_ | ((first | refine vr_ ?_ | (refine cs_ ?_ ?_<;>intro hc) | refine cj_ ?_ | simp (disch:=omega) only [encs_getN,qc])<;>(try refine ev_ ?_)) | with_reducible exact ti_)
     all_goals try (exfalso;omega)
     all_goals
      rw [if_pos hal0.symm]
      exact ⟨by simp only [AV.bd,qb0],rfl⟩
 ·have hcd:decide (t.con = []) = false:=decide_eq_false hc
  rw [if_neg hc]
  have hk1:IntKind.i64.wrap (k + 1) = k + 1:=qw (by omega) (by omega)
  simp only
  repeat' (first | refine vs_ ?_ | ((first | refine vr_ ?_ | fail)<;>(try simp only [hcd,w1,go_sem,↓reduceIte])) | ((first | (refine cs_ ?_ ?_<;>intro hc) | refine cj_ ?_ | simp (disch:=omega) only [encs_getN,qc])<;>(try refine ev_ ?_)) | with_reducible exact ti_)
  refine ⟨⟨by omega,by unfold maxLen;omega⟩,?_⟩
  repeat' (first | refine vs_ ?_ | ((first | refine vr_ ?_ | fail)<;>(try simp only [hcd,w1,go_sem,↓reduceIte])) | ((first | (refine cs_ ?_ ?_<;>intro hc) | refine cj_ ?_ | simp (disch:=omega) only [encs_getN,qc])<;>(try refine ev_ ?_)) | with_reducible exact ti_)
  refine qbi (S:=Nat) (fun i=>i≤t.args.length∧∀ j,j < i->0≤(brun s (t.args.take j) (lf - 1) (k + 1)).1) (plSt R b s t lf k) (fun i=>t.args.length - i) ?_ fun i hi=>?_
  ·refine qu 0 [0,1,2,3,4] ⟨Nat.zero_le _,fun j hj=>by omega⟩ rfl (by simp) ?_ ?_ ?_<;>simp only [plSt,List.take_zero,brun,gE_0,zY]<;>(try refine ev_ ?_)<;>(try with_reducible exact ti_)<;>(try simp (disch:=omega) only [qc,and_true,true_and])
   all_goals
    rw [show List.replicate t.args.length (AV.agg [AV.str [],AV.int IntKind.i64 0,AV.nils]) = gE [] t.args.length from rfl]
    exact ⟨qtf _ _ _,by rw [qpo]⟩
  ·obtain ⟨hi,hpos⟩:=hi
   have htl:(t.args.take i).length = i:=by rw [List.length_take];omega
   have hrng:=qp1 hs (k + 1) (t.args.take i) (lf - 1) (fun j hj=>by
    rw [htl] at hj
    rw [List.take_take,Nat.min_eq_left (by omega)]
    exact hpos j hj) (by omega) (by omega)
   have hbl:=qpy s (t.args.take i) (lf - 1) (k + 1)
   rw [htl] at hbl
   unfold plSt
   by_cases hlt:i < t.args.length
   ·have hsn:=qm6 s (t.args.getD i Y0) (k + 1) (t.args.take i) (lf - 1)
    rw [← qq1 hlt] at hsn
    obtain ⟨B,hB⟩:∃ B,brun s (t.args.take i) (lf - 1) (k + 1) = B:=⟨_,rfl⟩
    have hpi:(brun s (t.args.take i) (lf - 1) (k + 1)).1 = B.1:=by rw [hB]
    by_cases hneg:B.1 < 0
    ·rw [qq4 hlt hpos (by rw [hB];exact hneg)]
     rw [hB]
     have hnd:decide (B.1 < 0) = true:=decide_eq_true hneg
     repeat' (first | refine vs_ ?_ | ((first | refine vr_ ?_ | fail)<;>(try simp (disch:=first | omega | (simp only [List.length_set,List.length_append,List.length_cons,List.length_nil];done) | (simp only [List.length_set,List.length_append,List.length_cons,List.length_nil];omega)) only [hnd,qc,go_sem,↓reduceIte])) | ((first | (refine cs_ ?_ ?_<;>intro hc) | refine cj_ ?_ | simp (disch:=omega) only [encs_getN,qc])<;>(try refine ev_ ?_)) | with_reducible exact ti_)
     all_goals (exfalso;omega)
    ·have hnd:decide (B.1 < 0) = false:=decide_eq_false hneg
     have hm:=qb5 hlt
     have hszm:=qk1 hm
     have hdpm:=qnu hm
     have hput:=ih _ hm (qmz hb.2 _ hm) (by omega) B.1 (k + 1) (by omega) (by rw [hB] at hrng;omega) (by omega) (by have:=qsa t;omega)
     rw [hB] at hsn hbl ⊢
     have hset:=qbbg (o:=B.2) (n:=t.args.length) (by omega) (bput s (t.args.getD i Y0) B.1 (k + 1)).2
     rw [hbl] at hset
     have hgl:=qbba (o:=B.2) (n:=t.args.length) (by omega)
     repeat' (first | refine vs_ ?_ | ((first | refine vr_ ?_ | fail)<;>(try simp (disch:=first | omega | (simp only [List.length_set,List.length_append,List.length_cons,List.length_nil];done) | (simp only [List.length_set,List.length_append,List.length_cons,List.length_nil];omega)) only [hnd,qbp,qc,hk1,go_sem,↓reduceIte])) | ((first | (refine cs_ ?_ ?_<;>intro hc) | refine cj_ ?_ | simp (disch:=omega) only [encs_getN,qc] | refine qnd 0 1 hput (by simp) ?_)<;>(try refine ev_ ?_)) | with_reducible exact ti_)
     ·have hnn:∀ j,j < i + 1->0≤(brun s (t.args.take j) (lf - 1) (k + 1)).1:=fun j hj=>by
       by_cases hji:j = i
       ·subst hji
        rw [hB];omega
       ·exact hpos j (by omega)
      refine qu (i + 1) [0,1,2,3,4] ⟨⟨by omega,hnn⟩,by omega⟩ rfl (by simp) ?_ ?_ ?_<;>simp only [hsn,← hset]<;>(try refine ev_ ?_)<;>(try with_reducible exact ti_)<;>(try simp (disch:=omega) only [qc,and_true,true_and])
      ·rw [hset];exact ⟨qtf _ _ _,by rw [qpo]⟩
      ·rw [qw (by omega) (by omega),Int.natCast_add];rfl
     ·exfalso;omega
   ·have hie:i = t.args.length:=by omega
    subst hie
    rw [qvt hpos]
    rw [List.take_length] at hbl ⊢
    obtain ⟨B,hB⟩:∃ B,brun s t.args (lf - 1) (k + 1) = B:=⟨_,rfl⟩
    rw [hB] at hbl ⊢
    rw [show gE B.2 t.args.length = qn B.2 by rw [← hbl,qbc1]]
    refine qin 4 rfl (qf1 _) ?_
    repeat' (first | refine vs_ ?_ | ((first | refine vr_ ?_ | (refine cs_ ?_ ?_<;>intro hc) | refine cj_ ?_ | simp (disch:=omega) only [encs_getN,qc])<;>(try refine ev_ ?_)) | with_reducible exact ti_)
    all_goals try (exfalso;omega)
    all_goals
     rw [if_pos hbl]
     exact ⟨by simp only [AV.bd,qb0],rfl⟩
end Go.Proofs.Ytefcfdejmfgbpaa
