/- A text of this proof. -/
import Derived.Test.YtlahgbhhejkgbaaKax
import Derived.Test.YtlahgbhhejkgbaaKba
set_option linter.unusedVariables false
set_option linter.unusedSimpArgs false

/- the reader of terms: a term that is read -/
set_option maxRecDepth 4000
namespace Go.Proofs.Ytlahgbhhejkgbaa
open Go Go.RowKit Go.V

theorem qxf {n:Nat} {r0:Rd} {tg:Ty×Rd} (hA:∀ m,m≤n->RA m) (hk0:r0.s.length < 4294967281) (h0:0≤r0.lv) (h1:r0.lv≤200) {Q:VE->AF->List Ent->Prop} {af:AF} {H:List Ent}
 (hat:At (Bool×Nat×Ty×Rd) (fun x=>tmI n r0 tg x.2) tmSf 1 af H) (hQ:∀ af H,At Unit (fun _=>True) (fun _=>tmSt (0,tg)) 1 af H->Q .nrm af H):VI Try.prog none 67 1 (.block 0 (.loop qn6)) Q af H :=
 (qr4 (Q:=Q) hA hk0 h0 h1 hat).mono fun e af H hq=>by
  cases e with
  | nrm=>exact hQ af H hq
  | _=>exact hq
theorem qbeg {n:Nat} (hA:∀ m,m≤n->RA m) (hT:∀ m,m≤n->RT m):RT (n + 1):=fun r hk h0 h1 hn=>by
 by_cases hb:r.bad = true∨200 < r.lv + 1
 ·rw [qcg,if_pos hb]
  exact qww hb h0 h1
 rw [qcg,if_neg hb]
 have hb1:r.bad = false:=by cases h:r.bad with | false=>rfl | true=>exact absurd (.inl h) hb
 have hb2:¬ 200 < r.lv + 1:=fun h=>hb (.inr h)
 have hw:IntKind.i64.wrap (r.lv + 1) = r.lv + 1:=qv (by omega) (by omega)
 have hatm:=hA n (Nat.le_refl n) (lvR (r.lv + 1) r) hk (by show 0≤r.lv + 1;omega) (by show r.lv + 1≤200;omega) (by show 3 * r.s.length + 1≤n;omega)
 have hsf:=qn2 (n:=n) (by omega) (lvR (r.lv + 1) r)
 have hl:lvR (r.lv + 1) r = ⟨r.s,r.lv + 1,false⟩:=by rw [lvR,hb1]
 rw [hl] at hatm hsf ⊢
 generalize qbp n ⟨r.s,r.lv + 1,false⟩ = p0 at hatm hsf ⊢
 have hsm:=qfg ⟨hsf.1,hsf.2.1⟩ (qv0 n p0.1 p0.2) hsf.2.2
 generalize htg:qdb n p0.1 p0.2 = tg at hsm ⊢
 have hks:=qbcy hsm hk
 obtain ⟨p1,p2,p3⟩:=hsf
 obtain ⟨s1,s2,s3⟩:=hsm
 dsimp only at p1 p2 p3 s1 s2 s3 hks
 refine qjg c0c 1 (by simp) (by simp) ?_
 unfold k0c
 refine qb8 ?_
 repeat' (first | refine vs_ ?_ | ((first | refine vr_ ?_ | fail)<;>(try simp only [hw,hb2,decide_false,go_sem,↓reduceIte])) | ((first | (refine cs_ ?_ ?_<;>intro hc) | refine cj_ ?_ | simp (disch:=omega) only [encs_getN,qd])<;>(try refine ev_ ?_)) | with_reducible exact ti_)
 refine qrj ?_
 (refine ev_ ?_;(try with_reducible exact ti_))
 refine ⟨_,[],[.ptr 1 0],rfl,?_⟩
 refine qni (S:=Unit) (fun _=>True) (fun _=>(⟨[(1,.ptr 1 0),(2,.ptr 2 0)],dl1⟩,[rdE ⟨r.s,r.lv + 1,false⟩,.blk [.ptr 0 0],.blk z1Y])) ?_ fun _ _=>?_
 ·repeat' (first | refine vs_ ?_ | ((first | refine vr_ ?_ | fail)<;>(try simp only [hb1,go_sem,↓reduceIte])) | ((first | (refine cs_ ?_ ?_<;>intro hc) | refine cj_ ?_ | simp (disch:=omega) only [encs_getN,qd])<;>(try refine ev_ ?_)) | with_reducible exact ti_)
  refine qx () [0,1,2] trivial rfl (by simp) ?_ ?_ ?_<;>simp only [dl1,hb1]<;>(try refine ev_ ?_)<;>(try with_reducible exact ti_)<;>(try simp (disch:=omega) only [qd,and_true,true_and])
 refine qni (S:=Unit) (fun _=>True) (fun _=>tmSf (false,n,p0.1,p0.2)) ?_ fun _ _=>?_
 ·repeat' (first | refine vs_ ?_ | ((first | refine vr_ ?_ | refine qbr 0 hatm ?_ | (refine cs_ ?_ ?_<;>intro hc) | refine cj_ ?_ | simp (disch:=omega) only [encs_getN,qd])<;>(try refine ev_ ?_)) | with_reducible exact ti_)
  refine qx () [0,1,2,3] trivial rfl (by simp) ?_ ?_ ?_<;>simp only [tmSf,tmSt,dl1,Bool.false_eq_true,if_false]<;>(try refine ev_ ?_)<;>(try with_reducible exact ti_)<;>(try simp (disch:=omega) only [qd,and_true,true_and])
 have hin:tmI n ⟨r.s,r.lv + 1,false⟩ tg (n,p0.1,p0.2):=⟨htg,by dsimp only;omega,Nat.le_refl _,by obtain ⟨j,q⟩:=p1;dsimp only;rw [q];exact qc0 hk j,p2,by dsimp only;omega⟩
 have hat0:At (Bool×Nat×Ty×Rd) (fun x=>tmI n ⟨r.s,r.lv + 1,false⟩ tg x.2) tmSf 1 (tmSf (false,n,p0.1,p0.2)).1 (tmSf (false,n,p0.1,p0.2)).2:=by
  refine qx (false,n,p0.1,p0.2) [0,1,2,3] hin rfl (by simp) ?_ ?_ ?_<;>simp only [tmSf,tmSt,dl1,Bool.false_eq_true,if_false]<;>(try refine ev_ ?_)<;>(try with_reducible exact ti_)<;>(try simp (disch:=omega) only [qd,and_true,true_and])
 refine qb8 (qxf (r0:=⟨r.s,r.lv + 1,false⟩) hA hk (by dsimp only;omega) (by dsimp only;omega) hat0 fun af H hat=>quk hat fun _ _=>?_)
 unfold tmSt
 obtain ⟨n',rfl⟩:∃ n',n = n' + 1:=⟨n - 1,by omega⟩
 rw [qhc]
 cases hbt:tg.2.bad with
 | true =>
   rw [if_neg (by simp)]
   repeat' (first | refine vs_ ?_ | ((first | refine vr_ ?_ | fail)<;>(try simp only [hbt,go_sem,↓reduceIte])) | ((first | (refine cs_ ?_ ?_<;>intro hc) | refine cj_ ?_ | simp (disch:=omega) only [encs_getN,qd])<;>(try refine ev_ ?_)) | with_reducible exact ti_)
   refine qh7 (r:=⟨tg.2.s,tg.2.lv,true⟩) (L:=[.blk (yc tg.1),.blk (yc tg.1)]) (by dsimp only;omega) (by dsimp only;omega) rfl ?_
   (refine ev_ ?_;(try with_reducible exact ti_))
   all_goals (try rfl)
 | false =>
   cases hpt:pfx arrS tg.2.s with
   | false =>
     rw [if_neg (by simp)]
     repeat' (first | refine vs_ ?_ | ((first | refine vr_ ?_ | fail)<;>(try simp only [hbt,go_sem,↓reduceIte])) | ((first | (refine cs_ ?_ ?_<;>intro hc) | refine cj_ ?_ | simp (disch:=omega) only [encs_getN,qd] | refine qbr 0 (ql0 (r:=⟨tg.2.s,tg.2.lv,false⟩) hpt) ?_)<;>(try refine ev_ ?_)) | with_reducible exact ti_)
     refine qh7 (r:=⟨tg.2.s,tg.2.lv,false⟩) (L:=[.blk (yc tg.1),.blk (yc tg.1)]) (by dsimp only;omega) (by dsimp only;omega) rfl ?_
     (refine ev_ ?_;(try with_reducible exact ti_))
     all_goals (try rfl)
   | true =>
     have hlp:=qdy hpt
     simp only [arrS,List.length_cons,List.length_nil] at hlp
     have htm:=hT n' (by omega) (cutR 4 tg.2) (qc0 hks 4) (by show 0≤tg.2.lv;omega) (by show tg.2.lv≤200;omega) (by rw [qcb];omega)
     have htl:=(qx3 (n:=n') (by omega) (cutR 4 tg.2)).2.1
     have hct:cutR 4 tg.2 = ⟨tg.2.s.drop 4,tg.2.lv,false⟩:=by rw [cutR,hbt]
     rw [hct] at htm htl ⊢
     generalize qcg n' ⟨tg.2.s.drop 4,tg.2.lv,false⟩ = p2 at htm htl ⊢
     rw [if_pos ⟨rfl,rfl⟩]
     repeat' (first | refine vs_ ?_ | ((first | refine vr_ ?_ | fail)<;>(try simp only [hbt,go_sem,↓reduceIte])) | ((first | (refine cs_ ?_ ?_<;>intro hc) | refine cj_ ?_ | simp (disch:=omega) only [encs_getN,qd] | refine qbr 0 (qjh (r:=⟨tg.2.s,tg.2.lv,false⟩) hpt) ?_ | refine q3o 0 htm ?_)<;>(try refine ev_ ?_)) | with_reducible exact ti_)
     refine qh7 (r:=p2.2) (L:=[.blk [.str [45,62],.int .i64 0,.lit 3 [encY tg.1,encY p2.1]],.blk (yc tg.1)]) (by dsimp only at htl;omega) (by dsimp only at htl;omega) rfl ?_
     (refine ev_ ?_;(try with_reducible exact ti_))
     exact ⟨rfl,rfl⟩
theorem q6r:∀ N,(∀ n,n≤N->RA n)∧∀ n,n≤N->RT n:=fun N=>by
 induction N with
 | zero=>exact ⟨fun n hn r _ _ _ h=>by omega,fun n hn r _ _ _ h=>by omega⟩
 | succ N ih =>
   have hT:RT (N + 1):=qbeg ih.1 ih.2
   have hA:RA (N + 1):=qbd6 (ih.2 N (Nat.le_refl N))
   refine ⟨fun n hn=>?_,fun n hn=>?_⟩
   ·rcases Nat.lt_or_ge n (N + 1) with h | h
    ·exact ih.1 n (by omega)
    ·rw [show n = N + 1 by omega];exact hA
   ·rcases Nat.lt_or_ge n (N + 1) with h | h
    ·exact ih.2 n (by omega)
    ·rw [show n = N + 1 by omega];exact hT
theorem qhu {n:Nat} {r:Rd} (hk:ascS r.s) (h0:0≤r.lv) (h1:r.lv≤200) (hn:3 * r.s.length + 2≤n):VM Try.prog 53 (rdE r) (rdE (qcg n r).2) [.ptr 0 0] (encY (qcg n r).1):=(q6r n).2 n (Nat.le_refl n) r hk h0 h1 hn
def qbd (s:List UInt8):Ty×Rd:=qcg (3 * s.length + 2) ⟨s,0,false⟩
def qe0 (s:List UInt8):Ty×Int:=if (qbd s).2.bad = true then (Y0,5) else if (qbd s).2.s = [] then (if qbn (qbd s).1 = s then ((qbd s).1,0) else (Y0,5)) else (Y0,5)
def rdOK (s:List UInt8):Prop:=ascS s∧szY (qbd s).1≤20000∧dpY (qbd s).1≤300∧(qbn (qbd s).1).length≤Big
theorem qiy {s:List UInt8} (h:rdOK s):ql Try.prog 29 [.str s] (.tup [encY (qe0 s).1,.int .i64 (qe0 s).2]):=by
 refine qg c0b (by simp) (by simp only [go_sem]) (by simp [AV.bd,AV.bds,qck]) fun hw=>?_
 obtain ⟨h1,h2,h3,h4⟩:=h
 have hr:=qhu (n:=3 * s.length + 2) (r:=⟨s,0,false⟩) h1 (Int.le_refl 0) (show (0:Int)≤200 by decide) (Nat.le_refl _)
 have ht:=qf1 h2 h3 h4
 have hY:qe0 s = if (qbd s).2.bad = true then (Y0,5) else if (qbd s).2.s = [] then (if qbn (qbd s).1 = s then ((qbd s).1,0) else (Y0,5)) else (Y0,5):=rfl
 change VM _ _ _ (rdE (qbd s).2) _ (encY (qbd s).1) at hr
 generalize qbd s = p at *
 cases hb:p.2.bad with
 | true =>
   rw [hb,if_pos rfl] at hY
   rw [hY]
   repeat' (first | refine vs_ ?_ | ((first | refine vr_ ?_ | fail)<;>(try simp only [hb,go_sem,↓reduceIte])) | ((first | (refine cs_ ?_ ?_<;>intro hc) | refine cj_ ?_ | fail | refine qbr 1 hr ?_)<;>(try refine ev_ ?_)) | with_reducible exact ti_)
   all_goals rfl
 | false =>
   rw [hb,if_neg (by simp)] at hY
   rw [hY]
   by_cases he:p.2.s = []
   ·by_cases h5:qbn p.1 = s
    ·rw [if_pos he,if_pos h5]
     repeat' (first | refine vs_ ?_ | ((first | refine vr_ ?_ | fail)<;>(try simp only [hb,he,h5,go_sem,↓reduceIte])) | ((first | (refine cs_ ?_ ?_<;>intro hc) | refine cj_ ?_ | fail | refine qbr 1 hr ?_ | refine qa ht fun _=>?_)<;>(try refine ev_ ?_)) | with_reducible exact ti_)
     all_goals rfl
    ·rw [if_pos he,if_neg h5]
     repeat' (first | refine vs_ ?_ | ((first | refine vr_ ?_ | fail)<;>(try simp only [hb,he,h5,go_sem,↓reduceIte])) | ((first | (refine cs_ ?_ ?_<;>intro hc) | refine cj_ ?_ | fail | refine qbr 1 hr ?_ | refine qa ht fun _=>?_)<;>(try refine ev_ ?_)) | with_reducible exact ti_)
     all_goals rfl
   ·rw [if_neg he]
    repeat' (first | refine vs_ ?_ | ((first | refine vr_ ?_ | fail)<;>(try simp only [hb,he,go_sem,↓reduceIte])) | ((first | (refine cs_ ?_ ?_<;>intro hc) | refine cj_ ?_ | fail | refine qbr 1 hr ?_ | refine qa ht fun _=>?_)<;>(try refine ev_ ?_)) | with_reducible exact ti_)
    all_goals rfl
theorem qrx {s:List UInt8} {t:Ty} {r:Rd} (h1:qbd s = (t,r)) (h2:s.length < 1000) (h3:s.all (fun b=>decide (b.toNat < 128)) = true) (h4:szY t≤20000) (h5:dpY t≤300) (h6:(qbn t).length≤1000):rdOK s :=
 ⟨by unfold ascS;omega,by rw [h1];exact h4,by rw [h1];exact h5,by rw [h1];unfold Big;dsimp only;omega⟩
end Go.Proofs.Ytlahgbhhejkgbaa
