/- Texts of this proof, joined. -/
import Derived.Test.YtgglaabljlhliaaGreatLbd
import Derived.Test.YtgglaabljlhliaaGreatLaz
set_option linter.unusedVariables false
set_option linter.unusedSimpArgs false

/- substitutions: put into a type -/
namespace Go.Proofs.YtgglaabljlhliaaGreat
open Go Go.RowKit Go.V

/-! a receiver: there, or none -/
def svA (b:Bool) (k:Nat):AV:=if b then .ptr k 0 else .nilp
theorem qtv (b:Bool) (k:Nat) (σ:Nat->Nat):(svA b k).ren σ = svA b (σ k):=by cases b<;>rfl
theorem q3v (b:Bool) (k n:Nat) (h:k < n):(svA b k).bd n = true:=by
 cases b
 ·rfl
 ·show decide (k < n) = true
  exact decide_eq_true h
theorem qbcw (b:Bool) (k:Nat):(svA b k).leaf = true:=by cases b<;>rfl
theorem q15 (b:Bool) (k:Nat):(svA b k).cells = [svA b k]:=by cases b<;>rfl
theorem qbe5 (b:Bool) (k:Nat):(svA b k).isAgg = false:=by cases b<;>rfl
attribute [go_sem] qtv qbcw q15 qbe5
attribute [go_sem] q3v
abbrev qbpc:Ent:=.cus (fun _ _ _=>True)
theorem qbxo {P:Program} {f:FuncId} {xs:List AV} {r:AV} (h:VM P f qbpc qbpc xs r) (ha:AV.bds 0 xs = true) (hr:r.bd 0 = true):qk P f xs r:=by
 refine ⟨⟨h.1,fun w M G vs hst hv=>?_⟩,ha,hr⟩
 have hlen:=hst.len
 obtain rfl:G = []:=by
  cases G with
  | nil=>rfl
  | cons g r=>simp at hlen
 let g0:Gh:={ blk:=0,cap:=0,fp:=fun _=>False }
 have hst':St w M ([] ++ [g0]) ([] ++ [qbpc]):=qi6 (g:=g0) hst (Nat.le_refl _) (fun _ _=>rfl) (fun _ _ h=>h) (fun _ _ h=>.inl h) hst.Mlt (fun b hb=>False.elim hb) ⟨trivial,fun _ _ _ _ _ _=>trivial⟩
 have hv':VRs w M [g0] xs vs:=by
  have:=qcp (σ:=id) (m:=0) (G':=[g0]) (fun i g hi hg=>by omega) (fun b o h=>⟨h,rfl⟩) xs vs ha hv
  rwa [ql (σ:=id) (m:=0) (fun _ _=>rfl) xs ha] at this
 have hno:∀ b,¬ own [g0] b:=fun b ⟨j,gj,hj,hf⟩=>by
  cases j with
  | zero=>simp at hj;subst hj;exact hf
  | succ j=>simp at hj
 refine CallsIn.mono (h.2 w M [g0] vs hst' hv') fun e w' ho=>?_
 cases e with
 | returned x =>
   obtain ⟨M',G',H',v,⟨rfl,hvr⟩,hx,hs,hv2⟩:=ho
   obtain rfl:v = r:=by simpa using hvr
   refine ⟨M',[],[],v,⟨rfl,rfl⟩,⟨hx.os,hx.tape,hx.output,hx.size,fun i g h=>by simp at h,hx.le,fun b hb _=>hx.out b hb (hno b),fun b hb=>?_,fun b o hm=>?_⟩,⟨rfl,fun i g e h=>by simp at h,fun i j g g' b h=>by simp at h,fun i g b h=>by simp at h,hs.Mlt,hs.one⟩,?_⟩
   ·obtain ⟨j,gj,hj,_⟩:=hb
    simp at hj
   ·rcases hx.Mnew b o hm with h | h | h
    ·exact .inl h
    ·exact absurd h (hno b)
    ·exact .inr (.inr h)
   ·have:=qm8 (σ:=id) (m:=0) (G':=[]) (fun i g hi hg=>by omega) (fun b o h=>⟨h,rfl⟩) v x hr hv2
    rwa [ren_same (σ:=id) (m:=0) (fun _ _=>rfl) v hr] at this
 | panicked ch =>
   obtain ⟨M',G',H',v,x,⟨_,hvr⟩,_⟩:=ho
   cases hvr
 | outgrown=>exact ho
/-! runs of it -/
def brun (s:List Pr):List Ty->Int->Int->Int×List Ty
 | [],b,_=>(b,[])
 | x :: r,b,k=>((brun s r (bput s x b k).1 k).1,(bput s x b k).2 :: (brun s r (bput s x b k).1 k).2)
theorem qvh (s:List Pr):∀ (l:List Ty) (b k:Int),(brun s l b k).2.length = l.length
 | [],_,_=>rfl
 | x :: r,b,k=>by rw [brun,List.length_cons,List.length_cons,qvh s r]
theorem qp5 (s:List Pr) (x:Ty) (k:Int):∀ (l:List Ty) (b:Int),brun s (l ++ [x]) b k = ((bput s x (brun s l b k).1 k).1,(brun s l b k).2 ++ [(bput s x (brun s l b k).1 k).2])
 | [],b=>by simp [brun]
 | y :: r,b=>by rw [List.cons_append,brun,qp5 s x k r,brun];rfl
theorem qly (s:List Pr) (k:Int) (r:List Ty):∀ (l:List Ty) (b:Int),(∀ j,j < l.length->0≤(brun s (l.take j) b k).1)->qc6 s (l ++ r) b k = ((qc6 s r (brun s l b k).1 k).1,(qc6 s r (brun s l b k).1 k).2.map ((brun s l b k).2 ++ ·))
 | [],b,_=>by simp [brun]
 | x :: l, b, h => by
   have h0:=h 0 (by simp)
   rw [List.take_zero,brun] at h0
   have h1:=qly s k r l (bput s x b k).1 fun j hj=>by
    have:=h (j + 1) (by simpa using hj)
    rwa [List.take_succ_cons,brun] at this
   rw [List.cons_append,qc6,if_neg (by omega),h1,brun]
   simp only [Option.map_map]
   rfl
theorem q2k {s:List Pr} {l:List Ty} {b k:Int} (h:∀ j,j < l.length->0≤(brun s (l.take j) b k).1):qc6 s l b k = ((brun s l b k).1,some (brun s l b k).2):=by
 have:=qly s k [] l b h
 rw [List.append_nil] at this
 rw [this,qc6];simp
theorem qxz {s:List Pr} {l:List Ty} {b k:Int} {i:Nat} (hi:i < l.length) (h:∀ j,j < i->0≤(brun s (l.take j) b k).1) (hn:(brun s (l.take i) b k).1 < 0):qc6 s l b k = ((brun s (l.take i) b k).1,none):=by
 have h2:(l.take i).length = i:=by rw [List.length_take];omega
 have:=qly s k (l.drop i) (l.take i) b fun j hj=>by
  rw [h2] at hj
  rw [List.take_take,Nat.min_eq_left (by omega)]
  exact h j hj
 rw [List.take_append_drop] at this
 rw [this,List.drop_eq_getElem_cons hi,qc6,if_pos hn];rfl
theorem qv2 {s:List Pr} (hs:okR s) (k:Int):∀ (l:List Ty) (b:Int),(∀ j,j < l.length->0≤(brun s (l.take j) b k).1)->-4096≤b->b≤4096->-4096≤(brun s l b k).1∧(brun s l b k).1≤4096
 | [],b,_,h0,h1=>⟨h0,h1⟩
 | x :: r, b, h, h0, h1 => by
   have hb:=h 0 (by simp)
   have hb:0≤b:=hb
   have:=qv8 hs x b k hb h1
   rw [brun]
   exact qv2 hs k r _ (fun j hj=>by
    have:=h (j + 1) (by simpa using hj)
    rwa [List.take_succ_cons,brun] at this) this.1 this.2
def gE (o:List Ty) (n:Nat):List AV:=qx o ++ List.replicate (n - o.length) zY
theorem qb3c {o:List Ty} {n:Nat} (h:o.length≤n):(gE o n).length = n:=by rw [gE,List.length_append,qbz,List.length_replicate];omega
theorem gE_0 (n:Nat):gE [] n = List.replicate n zY:=rfl
theorem qbxv (o:List Ty):gE o o.length = qx o:=by rw [gE,Nat.sub_self,List.replicate_zero,List.append_nil]
theorem qb44 {o:List Ty} {n:Nat} (h:o.length < n) (x:Ty):(gE o n).set o.length (encY x) = gE (o ++ [x]) n:=by
 obtain ⟨k,hk⟩:∃ k,n - o.length = k + 1:=⟨n - o.length - 1,by omega⟩
 have hk2:n - (o ++ [x]).length = k:=by rw [List.length_append,List.length_singleton];omega
 rw [gE,gE,hk,hk2,List.replicate_succ,← qgo,List.set_append_right _ _ (by rw [qbz];omega),qbz,Nat.sub_self,List.set_cons_zero,List.append_assoc]
 rfl
theorem q1h (k:Nat) (o:List Ty) (n:Nat):AV.bds k (gE o n) = true:=by
 rw [gE,qn1,qcm,qb9]
 simp [zY,AV.bd,AV.bds]
theorem qvn (σ:Nat->Nat) (o:List Ty) (n:Nat):AV.rens σ (gE o n) = gE o n:=ql (m:=0) (fun i hi=>by omega) _ (q1h 0 o n)
attribute [go_sem] q1h qvn
set_option maxRecDepth 4000

theorem qgs {f:FuncId} {args:List AV} {r r':AV} (h:qk Tryz.prog f args r) (e:r = r'):qk Tryz.prog f args r':=e ▸ h
abbrev blE (b:Bool) (c:Nat) (lf:Int):Ent:=.blk [svA b c,.int .i64 lf]
theorem qbzw (b:Bool) (c:Nat) (lf:Int) (n:Nat) (h:c < n):(blE b c lf).bd n = true:=by simp only [blE,Ent.bd,AV.bds,q3v b c n h,AV.bd,Bool.and_true]
theorem q5w (b:Bool) (c:Nat) (lf:Int) (σ:Nat->Nat):(blE b c lf).ren σ = blE b (σ c) lf:=by simp only [blE,Ent.ren,AV.rens,qtv,AV.ren]
abbrev putF:FuncId:=114
def qby2 (R:World->(Nat->Nat->Prop)->Gh->Prop) (b:Bool) (t:Ty) (lf k lf':Int) (t':Ty):Prop :=
 VCalls Tryz.prog putF [blE b 1 lf,.cus R] [.ptr 0 0,encY t,.int .i64 k] fun H' o=>H' = [blE b 1 lf',.cus R]∧o = .val (encY t')
section
variable {R:World->(Nat->Nat->Prop)->Gh->Prop} {b:Bool} {s:List Pr} {t t':Ty} {lf k lf':Int} {H:List Ent} {Q:List Ent->VO->Prop}
theorem qt1 (a c:Nat) (h:qby2 R b t lf k lf' t') (hac:a≠c) (hq:Q (H.set a (blE b c lf')) (.val (encY t'))) (h0:ent H a = blE b c lf:=by rfl) (h1:ent H c = .cus R:=by rfl) (ha:a < H.length:=by simp) (hc:c < H.length:=by simp) :
 VApp Tryz.prog H (.fn putF [] []) [.ptr a 0,encY t,.int .i64 k] Q:=by
 refine qcu ?_
 rw [List.nil_append,List.append_nil]
 refine qb7 [a,c] h (by simp [hac]) ⟨⟨ha,qbzw _ _ _ _ (by simp),by rw [h0,q5w];rfl⟩,⟨hc,rfl,by rw [h1];rfl⟩,trivial⟩ (by simp only [AV.bds,AV.bd,qck,Bool.and_true];rfl) (by simp only [AV.rens,AV.ren,qoq];rfl) fun H1 o ho=>?_
 obtain ⟨rfl,rfl⟩:=ho
 have e1:qhy H [a,c] [blE b 1 lf',.cus R] = H.set a (blE b c lf'):=by
  show ((H.set a ((blE b 1 lf').ren _)).set c (.cus R)) ++ [] = _
  rw [List.append_nil,q5w]
  have h1':ent (H.set a (blE b (sg' [a,c] H.length 1) lf')) c = .cus R:=by
   rw [← h1]
   exact qye hac
  exact qiu h1' (by simpa using hc)
 rw [e1]
 simp only [VO.ren,qoq]
 exact hq
theorem qbrl (hG:VM Tryz.prog 136 (.cus R) (.cus R) [svA b 0,.int .i64 k] (getV s k)) {K:Md->AV->List Ent->Prop} {raws:List AV} (hq:K (.meth 1 (.cus R) (.cus R)) (getV s k) H) (h1:ent H 1 = .cus R:=by rfl) (hl:1 < H.length:=by simp) :
 DApp Tryz.prog H (.fn 136 [] []) [svA b 1,.int .i64 k] raws K:=by
 refine .inr (.inr (.inl ⟨getV s k,1,.cus R,.cus R,⟨by simp,h1,fun H₀ h0=>?_⟩,?_⟩))
 ·have hl0:=(List.getElem?_eq_some_iff.1 (q9 h0 (by simp))).1
  exact qcc 1 hG ⟨rfl,rfl⟩ rfl rfl hl0 h0 (qbm2 0 _ _) (by simp only [AV.rens,qtv,AV.ren];rfl) (by simp only [AV.bds,q3v b 0 1 (by omega),AV.bd,Bool.and_true])
 ·rw [qiu h1 hl]
  exact hq
end
theorem qz0 {l:List Ty} {i:Nat} (h:i < l.length):l.take (i + 1) = l.take i ++ [l.getD i Y0]:=by
 rw [List.take_add_one,List.getD_eq_getElem?_getD,List.getElem?_eq_getElem h];rfl
def plSt (R:World->(Nat->Nat->Prop)->Gh->Prop) (b:Bool) (s:List Pr) (t:Ty) (lf k:Int) (i:Nat):AF×List Ent :=
 (⟨[(0, .ptr 0 0), (2, .int .i64 k), (4, .ptr 2 0), (6, .ptr 3 0), (9, .row 4 t.args.length), (57, .int .i64 t.args.length), (58, .int .i64 i)], []⟩,
   [blE b 1 (brun s (t.args.take i) (lf - 1) (k + 1)).1,.cus R,.blk (yc t),.blk [.str [],.int .i64 0,.nils],.mrow 3 (gE (brun s (t.args.take i) (lf - 1) (k + 1)).2 t.args.length)])
theorem qbhe {R:World->(Nat->Nat->Prop)->Gh->Prop} {b:Bool} {s:List Pr} (hG:∀ v,VM Tryz.prog 136 (.cus R) (.cus R) [svA b 0,.int .i64 v] (getV s v)) (hs:okR s) :
 ∀ t,bare t->szY t≤20000->∀ lf k:Int,0≤lf->lf≤4096->0≤k->k + dpY t≤1000->qby2 R b t lf k (bput s t lf k).1 (bput s t lf k).2:=by
 refine Ty.ind fun t ih hb hz lf k h0 h1 h2 h3=>?_
 refine qr c0w 2 (by simp) (by simp) ?_
 rw [qbun]
 rw [qbse] at hb
 have hsz:=qin t
 have hal:=qkb t.args
 have w1:IntKind.i64.wrap (lf - 1) = lf - 1:=qbc (by omega) (by omega)
 by_cases hc:t.con = []
 ·have hcd:decide (t.con = []) = true:=decide_eq_true hc
  have hargs:=hb.1 hc
  rw [if_pos hc]
  cases hlk:qbm t.var s with
  | some u =>
    have hu:=qu9 hs hlk
    have hg:getV s t.var = .tup [encY u,.bool true]:=by rw [getV,hlk];rfl
    have hS:qk Tryz.prog 137 [encY u] (.int .i64 (szY u)):=qgs (qx6 u) (by rw [qqa u 0 1 (by omega) (by omega)];simp)
    have hD:qk Tryz.prog 138 [encY u] (.int .i64 (dpY u)):=qgs (qtf u) (by rw [qrg u 0 1 (by omega) (by omega) (by omega)];simp only;congr 1;omega)
    have hcp:=qfr u (by omega)
    have w2:IntKind.i64.wrap (lf - szY u) = lf - szY u:=qbc (by omega) (by omega)
    have w3:IntKind.i64.wrap (k + dpY u) = k + dpY u:=qbc (by omega) (by omega)
    simp only
    by_cases hd:101 < k + dpY u
    ·rw [if_pos hd]
     have hdd:decide (101 < k + (dpY u:Int)) = true:=decide_eq_true hd
     repeat' (first | refine vs_ ?_ | ((first | refine vr_ ?_ | fail)<;>(try simp only [hcd,hg,w2,w3,hdd,go_sem,↓reduceIte])) | ((first | simp (disch:=omega) only [hg] | (refine cs_ ?_ ?_<;>intro hc) | refine cj_ ?_ | simp (disch:=omega) only [encs_getN,qb] | refine qa hS fun _=>?_ | refine qa hD fun _=>?_ | refine qa hcp fun _=>?_ | refine qbrl (hG _) ?_ | refine qc hS ?_ | refine qc hD ?_ | refine qc hcp ?_)<;>(try refine ev_ ?_)) | with_reducible exact ti_)
    ·rw [if_neg hd]
     have hdd:decide (101 < k + (dpY u:Int)) = false:=decide_eq_false hd
     repeat' (first | refine vs_ ?_ | ((first | refine vr_ ?_ | fail)<;>(try simp only [hcd,hg,w2,w3,hdd,go_sem,↓reduceIte])) | ((first | simp (disch:=omega) only [hg] | (refine cs_ ?_ ?_<;>intro hc) | refine cj_ ?_ | simp (disch:=omega) only [encs_getN,qb] | refine qa hS fun _=>?_ | refine qa hD fun _=>?_ | refine qa hcp fun _=>?_ | refine qbrl (hG _) ?_ | refine qc hS ?_ | refine qc hD ?_ | refine qc hcp ?_)<;>(try refine ev_ ?_)) | with_reducible exact ti_)
  | none =>
    have hg:getV s t.var = .tup [encY Y0,.bool false]:=by rw [getV,hlk];rfl
    have hbp:qc6 s t.args (lf - 1) (k + 1) = (lf - 1,some []):=by rw [hargs,qc6]
    rw [hbp]
    have hal0:t.args.length = 0:=by rw [hargs];rfl
    repeat' (first | refine vs_ ?_ | ((first | refine vr_ ?_ | fail)<;>(try simp only [hcd,hg,w1,go_sem,↓reduceIte])) | ((first | simp (disch:=omega) only [hg] | (refine cs_ ?_ ?_<;>intro hc) | refine cj_ ?_ | simp (disch:=omega) only [encs_getN,qb] | refine qbrl (hG _) ?_)<;>(try refine ev_ ?_)) | with_reducible exact ti_)
    refine qj (S:=Unit) (fun _=>True) (fun _=>(⟨[(0,.ptr 0 0),(2,.int .i64 k),(4,.ptr 2 0),(6,.ptr 3 0),(9,.row 5 t.args.length),(57,.int .i64 t.args.length),(58,.int .i64 (0:Nat))],[]⟩,[blE b 1 (lf - 1),.cus R,.blk (yc t),.blk [.str [],.int .i64 0,.nils],.blk (yc Y0),.mrow 3 (gE [] t.args.length)])) (fun _=>0) ?_ fun x hx=>?_
    ·refine qf () [0,1,2,3,4,5] trivial rfl (by simp) ?_ ?_ ?_<;>simp only [gE_0,zY]<;>(try refine ev_ ?_)<;>(try with_reducible exact ti_)<;>(try simp (disch:=omega) only [qb,and_true,true_and])
     all_goals
      rw [show List.replicate t.args.length (AV.agg [AV.str [],AV.int IntKind.i64 0,AV.nils]) = gE [] t.args.length from rfl]
      exact ⟨q1h _ _ _,by rw [qvn]⟩
    ·rw [show gE [] t.args.length = qx [] by rw [hal0];rfl]
     refine qkr 5 rfl (qi7 _) ?_
     repeat' (first | refine vs_ ?_ | ((first | refine vr_ ?_ | (refine cs_ ?_ ?_<;>intro hc) | refine cj_ ?_ | simp (disch:=omega) only [encs_getN,qb])<;>(try refine ev_ ?_)) | with_reducible exact ti_)
     all_goals try (exfalso;omega)
     all_goals
      rw [if_pos hal0.symm]
      exact ⟨by simp only [AV.bd,qcm],rfl⟩
 ·have hcd:decide (t.con = []) = false:=decide_eq_false hc
  rw [if_neg hc]
  have hk1:IntKind.i64.wrap (k + 1) = k + 1:=qbc (by omega) (by omega)
  simp only
  repeat' (first | refine vs_ ?_ | ((first | refine vr_ ?_ | fail)<;>(try simp only [hcd,w1,go_sem,↓reduceIte])) | ((first | (refine cs_ ?_ ?_<;>intro hc) | refine cj_ ?_ | simp (disch:=omega) only [encs_getN,qb])<;>(try refine ev_ ?_)) | with_reducible exact ti_)
  refine ⟨⟨by omega,by unfold maxLen;omega⟩,?_⟩
  repeat' (first | refine vs_ ?_ | ((first | refine vr_ ?_ | fail)<;>(try simp only [hcd,w1,go_sem,↓reduceIte])) | ((first | (refine cs_ ?_ ?_<;>intro hc) | refine cj_ ?_ | simp (disch:=omega) only [encs_getN,qb])<;>(try refine ev_ ?_)) | with_reducible exact ti_)
  refine qj (S:=Nat) (fun i=>i≤t.args.length∧∀ j,j < i->0≤(brun s (t.args.take j) (lf - 1) (k + 1)).1) (plSt R b s t lf k) (fun i=>t.args.length - i) ?_ fun i hi=>?_
  ·refine qf 0 [0,1,2,3,4] ⟨Nat.zero_le _,fun j hj=>by omega⟩ rfl (by simp) ?_ ?_ ?_<;>simp only [plSt,List.take_zero,brun,gE_0,zY]<;>(try refine ev_ ?_)<;>(try with_reducible exact ti_)<;>(try simp (disch:=omega) only [qb,and_true,true_and])
   all_goals
    rw [show List.replicate t.args.length (AV.agg [AV.str [],AV.int IntKind.i64 0,AV.nils]) = gE [] t.args.length from rfl]
    exact ⟨q1h _ _ _,by rw [qvn]⟩
  ·obtain ⟨hi,hpos⟩:=hi
   have htl:(t.args.take i).length = i:=by rw [List.length_take];omega
   have hrng:=qv2 hs (k + 1) (t.args.take i) (lf - 1) (fun j hj=>by
    rw [htl] at hj
    rw [List.take_take,Nat.min_eq_left (by omega)]
    exact hpos j hj) (by omega) (by omega)
   have hbl:=qvh s (t.args.take i) (lf - 1) (k + 1)
   rw [htl] at hbl
   unfold plSt
   by_cases hlt:i < t.args.length
   ·have hsn:=qp5 s (t.args.getD i Y0) (k + 1) (t.args.take i) (lf - 1)
    rw [← qz0 hlt] at hsn
    obtain ⟨B,hB⟩:∃ B,brun s (t.args.take i) (lf - 1) (k + 1) = B:=⟨_,rfl⟩
    have hpi:(brun s (t.args.take i) (lf - 1) (k + 1)).1 = B.1:=by rw [hB]
    by_cases hneg:B.1 < 0
    ·rw [qxz hlt hpos (by rw [hB];exact hneg)]
     rw [hB]
     have hnd:decide (B.1 < 0) = true:=decide_eq_true hneg
     repeat' (first | refine vs_ ?_ | ((first | refine vr_ ?_ | fail)<;>(try simp (disch:=first | omega | (simp only [List.length_set,List.length_append,List.length_cons,List.length_nil];done) | (simp only [List.length_set,List.length_append,List.length_cons,List.length_nil];omega)) only [hnd,qb,go_sem,↓reduceIte])) | ((first | (refine cs_ ?_ ?_<;>intro hc) | refine cj_ ?_ | simp (disch:=omega) only [encs_getN,qb])<;>(try refine ev_ ?_)) | with_reducible exact ti_)
     all_goals (exfalso;omega)
    ·have hnd:decide (B.1 < 0) = false:=decide_eq_false hneg
     have hm:=qb2 hlt
     have hszm:=qiv hm
     have hdpm:=qkh hm
     have hput:=ih _ hm (qsv hb.2 _ hm) (by omega) B.1 (k + 1) (by omega) (by rw [hB] at hrng;omega) (by omega) (by have:=qsj t;omega)
     rw [hB] at hsn hbl ⊢
     have hset:=qb44 (o:=B.2) (n:=t.args.length) (by omega) (bput s (t.args.getD i Y0) B.1 (k + 1)).2
     rw [hbl] at hset
     have hgl:=qb3c (o:=B.2) (n:=t.args.length) (by omega)
     repeat' (first | refine vs_ ?_ | ((first | refine vr_ ?_ | fail)<;>(try simp (disch:=first | omega | (simp only [List.length_set,List.length_append,List.length_cons,List.length_nil];done) | (simp only [List.length_set,List.length_append,List.length_cons,List.length_nil];omega)) only [hnd,qb6,qb,hk1,go_sem,↓reduceIte])) | ((first | (refine cs_ ?_ ?_<;>intro hc) | refine cj_ ?_ | simp (disch:=omega) only [encs_getN,qb] | refine qt1 0 1 hput (by simp) ?_)<;>(try refine ev_ ?_)) | with_reducible exact ti_)
     ·have hnn:∀ j,j < i + 1->0≤(brun s (t.args.take j) (lf - 1) (k + 1)).1:=fun j hj=>by
       by_cases hji:j = i
       ·subst hji
        rw [hB];omega
       ·exact hpos j (by omega)
      refine qf (i + 1) [0,1,2,3,4] ⟨⟨by omega,hnn⟩,by omega⟩ rfl (by simp) ?_ ?_ ?_<;>simp only [hsn,← hset]<;>(try refine ev_ ?_)<;>(try with_reducible exact ti_)<;>(try simp (disch:=omega) only [qb,and_true,true_and])
      ·rw [hset];exact ⟨q1h _ _ _,by rw [qvn]⟩
      ·rw [qbc (by omega) (by omega),Int.natCast_add];rfl
     ·exfalso;omega
   ·have hie:i = t.args.length:=by omega
    subst hie
    rw [q2k hpos]
    rw [List.take_length] at hbl ⊢
    obtain ⟨B,hB⟩:∃ B,brun s t.args (lf - 1) (k + 1) = B:=⟨_,rfl⟩
    rw [hB] at hbl ⊢
    rw [show gE B.2 t.args.length = qx B.2 by rw [← hbl,qbxv]]
    refine qkr 4 rfl (qi7 _) ?_
    repeat' (first | refine vs_ ?_ | ((first | refine vr_ ?_ | (refine cs_ ?_ ?_<;>intro hc) | refine cj_ ?_ | simp (disch:=omega) only [encs_getN,qb])<;>(try refine ev_ ?_)) | with_reducible exact ti_)
    all_goals try (exfalso;omega)
    all_goals
     rw [if_pos hbl]
     exact ⟨by simp only [AV.bd,qcm],rfl⟩

theorem qqc:∀ (l s:List Pr) (p:Pr),addR s (l ++ [p]) = (setR (addR s l) p.v p.ty).1
 | [],s,p=>rfl
 | x :: l,s,p=>by rw [List.cons_append,addR,addR,qqc l]


end Go.Proofs.YtgglaabljlhliaaGreat
