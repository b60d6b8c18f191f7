/- A text of this proof. -/
import Derived.Test.YtkenggenkmfopaaGreatNbc
set_option linter.unusedVariables false
set_option linter.unusedSimpArgs false

/- substitutions: put into a type, walked -/
set_option maxRecDepth 4000
namespace Go.Proofs.YtkenggenkmfopaaGreat
open Go Go.RowKit Go.V

theorem qtw {f:FuncId} {args:List AV} {r r':AV} (h:qi Tryz.prog f args r) (e:r = r'):qi Tryz.prog f args r':=e ▸ h
abbrev blE (b:Bool) (c:Nat) (lf:Int):Ent:=.blk [svA b c,.int .i64 lf]
theorem qbvq (b:Bool) (c:Nat) (lf:Int) (n:Nat) (h:c < n):(blE b c lf).bd n = true:=by simp only [blE,Ent.bd,AV.bds,qz3 b c n h,AV.bd,Bool.and_true]
theorem q0o (b:Bool) (c:Nat) (lf:Int) (σ:Nat->Nat):(blE b c lf).ren σ = blE b (σ c) lf:=by simp only [blE,Ent.ren,AV.rens,qq0,AV.ren]
abbrev putF:FuncId:=84
def qbwl (R:World->(Nat->Nat->Prop)->Gh->Prop) (b:Bool) (t:Ty) (lf k lf':Int) (t':Ty):Prop :=
 VCalls Tryz.prog putF [blE b 1 lf,.cus R] [.ptr 0 0,encY t,.int .i64 k] fun H' o=>H' = [blE b 1 lf',.cus R]∧o = .val (encY t')
section
variable {R:World->(Nat->Nat->Prop)->Gh->Prop} {b:Bool} {s:List Pr} {t t':Ty} {lf k lf':Int} {H:List Ent} {Q:List Ent->VO->Prop}
theorem qqq (a c:Nat) (h:qbwl R b t lf k lf' t') (hac:a≠c) (hq:Q (H.set a (blE b c lf')) (.val (encY t'))) (h0:ent H a = blE b c lf:=by rfl) (h1:ent H c = .cus R:=by rfl) (ha:a < H.length:=by simp) (hc:c < H.length:=by simp) :
 VApp Tryz.prog H (.fn putF [] []) [.ptr a 0,encY t,.int .i64 k] Q:=by
 refine qbs ?_
 rw [List.nil_append,List.append_nil]
 refine q9 [a,c] h (by simp [hac]) ⟨⟨ha,qbvq _ _ _ _ (by simp),by rw [h0,q0o];rfl⟩,⟨hc,rfl,by rw [h1];rfl⟩,trivial⟩ (by simp only [AV.bds,AV.bd,qw,Bool.and_true];rfl) (by simp only [AV.rens,AV.ren,qf1];rfl) fun H1 o ho=>?_
 obtain ⟨rfl,rfl⟩:=ho
 have e1:qdm H [a,c] [blE b 1 lf',.cus R] = H.set a (blE b c lf'):=by
  show ((H.set a ((blE b 1 lf').ren _)).set c (.cus R)) ++ [] = _
  rw [List.append_nil,q0o]
  have h1':ent (H.set a (blE b (sg' [a,c] H.length 1) lf')) c = .cus R:=by
   rw [← h1]
   exact qwf hac
  exact qbp h1' (by simpa using hc)
 rw [e1]
 simp only [VO.ren,qf1]
 exact hq
theorem qbpo (hG:VM Tryz.prog 123 (.cus R) (.cus R) [svA b 0,.int .i64 k] (getV s k)) {K:Md->AV->List Ent->Prop} {raws:List AV} (hq:K (.meth 1 (.cus R) (.cus R)) (getV s k) H) (h1:ent H 1 = .cus R:=by rfl) (hl:1 < H.length:=by simp) :
 DApp Tryz.prog H (.fn 123 [] []) [svA b 1,.int .i64 k] raws K:=by
 refine .inr (.inr (.inl ⟨getV s k,1,.cus R,.cus R,⟨by simp,h1,fun H₀ h0=>?_⟩,?_⟩))
 ·have hl0:=(List.getElem?_eq_some_iff.1 (qu h0 (by simp))).1
  exact qbl 1 hG ⟨rfl,rfl⟩ rfl rfl hl0 h0 (qbd5 0 _ _) (by simp only [AV.rens,qq0,AV.ren];rfl) (by simp only [AV.bds,qz3 b 0 1 (by omega),AV.bd,Bool.and_true])
 ·rw [qbp h1 hl]
  exact hq
end
theorem qv3 {l:List Ty} {i:Nat} (h:i < l.length):l.take (i + 1) = l.take i ++ [l.getD i Y0]:=by
 rw [List.take_add_one,List.getD_eq_getElem?_getD,List.getElem?_eq_getElem h];rfl
def plSt (R:World->(Nat->Nat->Prop)->Gh->Prop) (b:Bool) (s:List Pr) (t:Ty) (lf k:Int) (i:Nat):AF×List Ent :=
 (⟨[(0, .ptr 0 0), (2, .int .i64 k), (4, .ptr 2 0), (6, .ptr 3 0), (9, .row 4 t.args.length), (57, .int .i64 t.args.length), (58, .int .i64 i)], []⟩,
   [blE b 1 (brun s (t.args.take i) (lf - 1) (k + 1)).1,.cus R,.blk (yc t),.blk [.str [],.int .i64 0,.nils],.mrow 3 (gE (brun s (t.args.take i) (lf - 1) (k + 1)).2 t.args.length)])
theorem qbbm {R:World->(Nat->Nat->Prop)->Gh->Prop} {b:Bool} {s:List Pr} (hG:∀ v,VM Tryz.prog 123 (.cus R) (.cus R) [svA b 0,.int .i64 v] (getV s v)) (hs:okR s) :
 ∀ t,bare t->szY t≤20000->∀ lf k:Int,0≤lf->lf≤4096->0≤k->k + dpY t≤1000->qbwl R b t lf k (bput s t lf k).1 (bput s t lf k).2:=by
 refine Ty.ind fun t ih hb hz lf k h0 h1 h2 h3=>?_
 refine qc c0dj 2 (by simp) (by simp) ?_
 rw [qbg0]
 rw [qbb1] at hb
 have hsz:=qib t
 have hal:=qgs t.args
 have w1:IntKind.i64.wrap (lf - 1) = lf - 1:=qbb (by omega) (by omega)
 by_cases hc:t.con = []
 ·have hcd:decide (t.con = []) = true:=decide_eq_true hc
  have hargs:=hb.1 hc
  rw [if_pos hc]
  cases hlk:qn t.var s with
  | some u =>
    have hu:=qt5 hs hlk
    have hg:getV s t.var = .tup [encY u,.bool true]:=by rw [getV,hlk];rfl
    have hS:qi Tryz.prog 124 [encY u] (.int .i64 (szY u)):=qtw (qwg u) (by rw [qp9 u 0 1 (by omega) (by omega)];simp)
    have hD:qi Tryz.prog 125 [encY u] (.int .i64 (dpY u)):=qtw (qq2 u) (by rw [qos u 0 1 (by omega) (by omega) (by omega)];simp only;congr 1;omega)
    have hcp:=qdz u (by omega)
    have w2:IntKind.i64.wrap (lf - szY u) = lf - szY u:=qbb (by omega) (by omega)
    have w3:IntKind.i64.wrap (k + dpY u) = k + dpY u:=qbb (by omega) (by omega)
    simp only
    by_cases hd:101 < k + dpY u
    ·rw [if_pos hd]
     have hdd:decide (101 < k + (dpY u:Int)) = true:=decide_eq_true hd
     repeat' (first | refine vs_ ?_ | ((first | refine vr_ ?_ | fail)<;>(try simp only [hcd,hg,w2,w3,hdd,go_sem,↓reduceIte])) | ((first | simp (disch:=omega) only [hg] | (refine cs_ ?_ ?_<;>intro hc) | refine cj_ ?_ | simp (disch:=omega) only [encs_getN,qb] | refine qa hS fun _=>?_ | refine qa hD fun _=>?_ | refine qa hcp fun _=>?_ | refine qbpo (hG _) ?_ | refine qg hS ?_ | refine qg hD ?_ | refine qg hcp ?_)<;>(try refine ev_ ?_)) | with_reducible exact ti_)
    ·rw [if_neg hd]
     have hdd:decide (101 < k + (dpY u:Int)) = false:=decide_eq_false hd
     repeat' (first | refine vs_ ?_ | ((first | refine vr_ ?_ | fail)<;>(try simp only [hcd,hg,w2,w3,hdd,go_sem,↓reduceIte])) | ((first | simp (disch:=omega) only [hg] | (refine cs_ ?_ ?_<;>intro hc) | refine cj_ ?_ | simp (disch:=omega) only [encs_getN,qb] | refine qa hS fun _=>?_ | refine qa hD fun _=>?_ | refine qa hcp fun _=>?_ | refine qbpo (hG _) ?_ | refine qg hS ?_ | refine qg hD ?_ | refine qg hcp ?_)<;>(try refine ev_ ?_)) | with_reducible exact ti_)
  | none =>
    have hg:getV s t.var = .tup [encY Y0,.bool false]:=by rw [getV,hlk];rfl
    have hbp:qcq s t.args (lf - 1) (k + 1) = (lf - 1,some []):=by rw [hargs,qcq]
    rw [hbp]
    have hal0:t.args.length = 0:=by rw [hargs];rfl
    repeat' (first | refine vs_ ?_ | ((first | refine vr_ ?_ | fail)<;>(try simp only [hcd,hg,w1,go_sem,↓reduceIte])) | ((first | simp (disch:=omega) only [hg] | (refine cs_ ?_ ?_<;>intro hc) | refine cj_ ?_ | simp (disch:=omega) only [encs_getN,qb] | refine qbpo (hG _) ?_)<;>(try refine ev_ ?_)) | with_reducible exact ti_)
    refine qp (S:=Unit) (fun _=>True) (fun _=>(⟨[(0,.ptr 0 0),(2,.int .i64 k),(4,.ptr 2 0),(6,.ptr 3 0),(9,.row 5 t.args.length),(57,.int .i64 t.args.length),(58,.int .i64 (0:Nat))],[]⟩,[blE b 1 (lf - 1),.cus R,.blk (yc t),.blk [.str [],.int .i64 0,.nils],.blk (yc Y0),.mrow 3 (gE [] t.args.length)])) (fun _=>0) ?_ fun x hx=>?_
    ·refine qm () [0,1,2,3,4,5] trivial rfl (by simp) ?_ ?_ ?_<;>simp only [gE_0,zY]<;>(try refine ev_ ?_)<;>(try with_reducible exact ti_)<;>(try simp (disch:=omega) only [qb,and_true,true_and])
     all_goals
      rw [show List.replicate t.args.length (AV.agg [AV.str [],AV.int IntKind.i64 0,AV.nils]) = gE [] t.args.length from rfl]
      exact ⟨qrt _ _ _,by rw [qlu]⟩
    ·rw [show gE [] t.args.length = qj [] by rw [hal0];rfl]
     refine qch 5 rfl (qd7 _) ?_
     repeat' (first | refine vs_ ?_ | ((first | refine vr_ ?_ | (refine cs_ ?_ ?_<;>intro hc) | refine cj_ ?_ | simp (disch:=omega) only [encs_getN,qb])<;>(try refine ev_ ?_)) | with_reducible exact ti_)
     all_goals try (exfalso;omega)
     all_goals
      rw [if_pos hal0.symm]
      exact ⟨by simp only [AV.bd,qbn],rfl⟩
 ·have hcd:decide (t.con = []) = false:=decide_eq_false hc
  rw [if_neg hc]
  have hk1:IntKind.i64.wrap (k + 1) = k + 1:=qbb (by omega) (by omega)
  simp only
  repeat' (first | refine vs_ ?_ | ((first | refine vr_ ?_ | fail)<;>(try simp only [hcd,w1,go_sem,↓reduceIte])) | ((first | (refine cs_ ?_ ?_<;>intro hc) | refine cj_ ?_ | simp (disch:=omega) only [encs_getN,qb])<;>(try refine ev_ ?_)) | with_reducible exact ti_)
  refine ⟨⟨by omega,by unfold maxLen;omega⟩,?_⟩
  repeat' (first | refine vs_ ?_ | ((first | refine vr_ ?_ | fail)<;>(try simp only [hcd,w1,go_sem,↓reduceIte])) | ((first | (refine cs_ ?_ ?_<;>intro hc) | refine cj_ ?_ | simp (disch:=omega) only [encs_getN,qb])<;>(try refine ev_ ?_)) | with_reducible exact ti_)
  refine qp (S:=Nat) (fun i=>i≤t.args.length∧∀ j,j < i->0≤(brun s (t.args.take j) (lf - 1) (k + 1)).1) (plSt R b s t lf k) (fun i=>t.args.length - i) ?_ fun i hi=>?_
  ·refine qm 0 [0,1,2,3,4] ⟨Nat.zero_le _,fun j hj=>by omega⟩ rfl (by simp) ?_ ?_ ?_<;>simp only [plSt,List.take_zero,brun,gE_0,zY]<;>(try refine ev_ ?_)<;>(try with_reducible exact ti_)<;>(try simp (disch:=omega) only [qb,and_true,true_and])
   all_goals
    rw [show List.replicate t.args.length (AV.agg [AV.str [],AV.int IntKind.i64 0,AV.nils]) = gE [] t.args.length from rfl]
    exact ⟨qrt _ _ _,by rw [qlu]⟩
  ·obtain ⟨hi,hpos⟩:=hi
   have htl:(t.args.take i).length = i:=by rw [List.length_take];omega
   have hrng:=qtp hs (k + 1) (t.args.take i) (lf - 1) (fun j hj=>by
    rw [htl] at hj
    rw [List.take_take,Nat.min_eq_left (by omega)]
    exact hpos j hj) (by omega) (by omega)
   have hbl:=qt4 s (t.args.take i) (lf - 1) (k + 1)
   rw [htl] at hbl
   unfold plSt
   by_cases hlt:i < t.args.length
   ·have hsn:=qpf s (t.args.getD i Y0) (k + 1) (t.args.take i) (lf - 1)
    rw [← qv3 hlt] at hsn
    obtain ⟨B,hB⟩:∃ B,brun s (t.args.take i) (lf - 1) (k + 1) = B:=⟨_,rfl⟩
    have hpi:(brun s (t.args.take i) (lf - 1) (k + 1)).1 = B.1:=by rw [hB]
    by_cases hneg:B.1 < 0
    ·rw [qun hlt hpos (by rw [hB];exact hneg)]
     rw [hB]
     have hnd:decide (B.1 < 0) = true:=decide_eq_true hneg
     repeat' (first | refine vs_ ?_ | ((first | refine vr_ ?_ | fail)<;>(try simp (disch:=first | omega | (simp only [List.length_set,List.length_append,List.length_cons,List.length_nil];done) | (simp only [List.length_set,List.length_append,List.length_cons,List.length_nil];omega)) only [hnd,qb,go_sem,↓reduceIte])) | ((first | (refine cs_ ?_ ?_<;>intro hc) | refine cj_ ?_ | simp (disch:=omega) only [encs_getN,qb])<;>(try refine ev_ ?_)) | with_reducible exact ti_)
     all_goals (exfalso;omega)
    ·have hnd:decide (B.1 < 0) = false:=decide_eq_false hneg
     have hm:=qbx hlt
     have hszm:=qnb hm
     have hdpm:=qz4 hm
     have hput:=ih _ hm (qpt hb.2 _ hm) (by omega) B.1 (k + 1) (by omega) (by rw [hB] at hrng;omega) (by omega) (by have:=qzo t;omega)
     rw [hB] at hsn hbl ⊢
     have hset:=q8e (o:=B.2) (n:=t.args.length) (by omega) (bput s (t.args.getD i Y0) B.1 (k + 1)).2
     rw [hbl] at hset
     have hgl:=q8c (o:=B.2) (n:=t.args.length) (by omega)
     repeat' (first | refine vs_ ?_ | ((first | refine vr_ ?_ | fail)<;>(try simp (disch:=first | omega | (simp only [List.length_set,List.length_append,List.length_cons,List.length_nil];done) | (simp only [List.length_set,List.length_append,List.length_cons,List.length_nil];omega)) only [hnd,qv,qb,hk1,go_sem,↓reduceIte])) | ((first | (refine cs_ ?_ ?_<;>intro hc) | refine cj_ ?_ | simp (disch:=omega) only [encs_getN,qb] | refine qqq 0 1 hput (by simp) ?_)<;>(try refine ev_ ?_)) | with_reducible exact ti_)
     ·have hnn:∀ j,j < i + 1->0≤(brun s (t.args.take j) (lf - 1) (k + 1)).1:=fun j hj=>by
       by_cases hji:j = i
       ·subst hji
        rw [hB];omega
       ·exact hpos j (by omega)
      refine qm (i + 1) [0,1,2,3,4] ⟨⟨by omega,hnn⟩,by omega⟩ rfl (by simp) ?_ ?_ ?_<;>simp only [hsn,← hset]<;>(try refine ev_ ?_)<;>(try with_reducible exact ti_)<;>(try simp (disch:=omega) only [qb,and_true,true_and])
      ·rw [hset];exact ⟨qrt _ _ _,by rw [qlu]⟩
      ·rw [qbb (by omega) (by omega),Int.natCast_add];rfl
     ·exfalso;omega
   ·have hie:i = t.args.length:=by omega
    subst hie
    rw [qy4 hpos]
    rw [List.take_length] at hbl ⊢
    obtain ⟨B,hB⟩:∃ B,brun s t.args (lf - 1) (k + 1) = B:=⟨_,rfl⟩
    rw [hB] at hbl ⊢
    rw [show gE B.2 t.args.length = qj B.2 by rw [← hbl,q8q]]
    refine qch 4 rfl (qd7 _) ?_
    repeat' (first | refine vs_ ?_ | ((first | refine vr_ ?_ | (refine cs_ ?_ ?_<;>intro hc) | refine cj_ ?_ | simp (disch:=omega) only [encs_getN,qb])<;>(try refine ev_ ?_)) | with_reducible exact ti_)
    all_goals try (exfalso;omega)
    all_goals
     rw [if_pos hbl]
     exact ⟨by simp only [AV.bd,qbn],rfl⟩
end Go.Proofs.YtkenggenkmfopaaGreat
