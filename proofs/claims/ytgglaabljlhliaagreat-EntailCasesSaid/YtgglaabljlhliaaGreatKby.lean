/- Texts of this proof, joined. -/
import Derived.Test.YtgglaabljlhliaaGreatKbx
import Derived.Test.YtgglaabljlhliaaGreatKax
import Derived.Test.YtgglaabljlhliaaGreatKbi
import Derived.Test.YtgglaabljlhliaaGreatKbf
set_option linter.unusedVariables false
set_option linter.unusedSimpArgs false

/- the reader of terms: a term that is read -/
set_option maxRecDepth 4000
namespace Go.Proofs.YtgglaabljlhliaaGreat
open Go Go.RowKit Go.V

theorem qbap {n:Nat} {r0:Rd} {tg:Ty×Rd} (hA:∀ m,m≤n->RA m) (hk0:r0.s.length < 4294967281) (h0:0≤r0.lv) (h1:r0.lv≤200) {Q:VE->AF->List Ent->Prop} {af:AF} {H:List Ent}
 (hat:At (Bool×Nat×Ty×Rd) (fun x=>tmI n r0 tg x.2) tmSf 1 af H) (hQ:∀ af H,At Unit (fun _=>True) (fun _=>tmSt (0,tg)) 1 af H->Q .nrm af H):VI Tryz.prog none 67 1 (.block 0 (.loop qnw)) Q af H :=
 (q22 (Q:=Q) hA hk0 h0 h1 hat).mono fun e af H hq=>by
  cases e with
  | nrm=>exact hQ af H hq
  | _=>exact hq
theorem qb4n {n:Nat} (hA:∀ m,m≤n->RA m) (hT:∀ m,m≤n->RT m):RT (n + 1):=fun r hk h0 h1 hn=>by
 by_cases hb:r.bad = true∨200 < r.lv + 1
 ·rw [qeq,if_pos hb]
  exact q9g hb h0 h1
 rw [qeq,if_neg hb]
 have hb1:r.bad = false:=by cases h:r.bad with | false=>rfl | true=>exact absurd (.inl h) hb
 have hb2:¬ 200 < r.lv + 1:=fun h=>hb (.inr h)
 have hw:IntKind.i64.wrap (r.lv + 1) = r.lv + 1:=qba (by omega) (by omega)
 have hatm:=hA n (Nat.le_refl n) (lvR (r.lv + 1) r) hk (by show 0≤r.lv + 1;omega) (by show r.lv + 1≤200;omega) (by show 3 * r.s.length + 1≤n;omega)
 have hsf:=qux (n:=n) (by omega) (lvR (r.lv + 1) r)
 have hl:lvR (r.lv + 1) r = ⟨r.s,r.lv + 1,false⟩:=by rw [lvR,hb1]
 rw [hl] at hatm hsf ⊢
 generalize qdr n ⟨r.s,r.lv + 1,false⟩ = p0 at hatm hsf ⊢
 have hsm:=qhr ⟨hsf.1,hsf.2.1⟩ (qbbl n p0.1 p0.2) hsf.2.2
 generalize htg:ql5 n p0.1 p0.2 = tg at hsm ⊢
 have hks:=qbzn hsm hk
 obtain ⟨p1,p2,p3⟩:=hsf
 obtain ⟨s1,s2,s3⟩:=hsm
 dsimp only at p1 p2 p3 s1 s2 s3 hks
 refine qm3 c0ed 1 (by simp) (by simp) ?_
 unfold k0ed
 refine qcg ?_
 repeat' (first | refine vs_ ?_ | ((first | refine vr_ ?_ | fail)<;>(try simp only [hw,hb2,decide_false,go_sem,↓reduceIte])) | ((first | (refine cs_ ?_ ?_<;>intro hc) | refine cj_ ?_ | simp (disch:=omega) only [encs_getN,qb])<;>(try refine ev_ ?_)) | with_reducible exact ti_)
 refine qrr ?_
 (refine ev_ ?_;(try with_reducible exact ti_))
 refine ⟨_,[],[.ptr 1 0],rfl,?_⟩
 refine qka (S:=Unit) (fun _=>True) (fun _=>(⟨[(1,.ptr 1 0),(2,.ptr 2 0)],dl1⟩,[rdE ⟨r.s,r.lv + 1,false⟩,.blk [.ptr 0 0],.blk z1Y])) ?_ fun _ _=>?_
 ·repeat' (first | refine vs_ ?_ | ((first | refine vr_ ?_ | fail)<;>(try simp only [hb1,go_sem,↓reduceIte])) | ((first | (refine cs_ ?_ ?_<;>intro hc) | refine cj_ ?_ | simp (disch:=omega) only [encs_getN,qb])<;>(try refine ev_ ?_)) | with_reducible exact ti_)
  refine qf () [0,1,2] trivial rfl (by simp) ?_ ?_ ?_<;>simp only [dl1,hb1]<;>(try refine ev_ ?_)<;>(try with_reducible exact ti_)<;>(try simp (disch:=omega) only [qb,and_true,true_and])
 refine qka (S:=Unit) (fun _=>True) (fun _=>tmSf (false,n,p0.1,p0.2)) ?_ fun _ _=>?_
 ·repeat' (first | refine vs_ ?_ | ((first | refine vr_ ?_ | refine qce 0 hatm ?_ | (refine cs_ ?_ ?_<;>intro hc) | refine cj_ ?_ | simp (disch:=omega) only [encs_getN,qb])<;>(try refine ev_ ?_)) | with_reducible exact ti_)
  refine qf () [0,1,2,3] trivial rfl (by simp) ?_ ?_ ?_<;>simp only [tmSf,tmSt,dl1,Bool.false_eq_true,if_false]<;>(try refine ev_ ?_)<;>(try with_reducible exact ti_)<;>(try simp (disch:=omega) only [qb,and_true,true_and])
 have hin:tmI n ⟨r.s,r.lv + 1,false⟩ tg (n,p0.1,p0.2):=⟨htg,by dsimp only;omega,Nat.le_refl _,by obtain ⟨j,q⟩:=p1;dsimp only;rw [q];exact qd4 hk j,p2,by dsimp only;omega⟩
 have hat0:At (Bool×Nat×Ty×Rd) (fun x=>tmI n ⟨r.s,r.lv + 1,false⟩ tg x.2) tmSf 1 (tmSf (false,n,p0.1,p0.2)).1 (tmSf (false,n,p0.1,p0.2)).2:=by
  refine qf (false,n,p0.1,p0.2) [0,1,2,3] hin rfl (by simp) ?_ ?_ ?_<;>simp only [tmSf,tmSt,dl1,Bool.false_eq_true,if_false]<;>(try refine ev_ ?_)<;>(try with_reducible exact ti_)<;>(try simp (disch:=omega) only [qb,and_true,true_and])
 refine qcg (qbap (r0:=⟨r.s,r.lv + 1,false⟩) hA hk (by dsimp only;omega) (by dsimp only;omega) hat0 fun af H hat=>qox hat fun _ _=>?_)
 unfold tmSt
 obtain ⟨n',rfl⟩:∃ n',n = n' + 1:=⟨n - 1,by omega⟩
 rw [q2i]
 cases hbt:tg.2.bad with
 | true =>
   rw [if_neg (by simp)]
   repeat' (first | refine vs_ ?_ | ((first | refine vr_ ?_ | fail)<;>(try simp only [hbt,go_sem,↓reduceIte])) | ((first | (refine cs_ ?_ ?_<;>intro hc) | refine cj_ ?_ | simp (disch:=omega) only [encs_getN,qb])<;>(try refine ev_ ?_)) | with_reducible exact ti_)
   refine qkz (r:=⟨tg.2.s,tg.2.lv,true⟩) (L:=[.blk (yc tg.1),.blk (yc tg.1)]) (by dsimp only;omega) (by dsimp only;omega) rfl ?_
   (refine ev_ ?_;(try with_reducible exact ti_))
   all_goals (try rfl)
 | false =>
   cases hpt:pfx arrS tg.2.s with
   | false =>
     rw [if_neg (by simp)]
     repeat' (first | refine vs_ ?_ | ((first | refine vr_ ?_ | fail)<;>(try simp only [hbt,go_sem,↓reduceIte])) | ((first | (refine cs_ ?_ ?_<;>intro hc) | refine cj_ ?_ | simp (disch:=omega) only [encs_getN,qb] | refine qce 0 (qq6 (r:=⟨tg.2.s,tg.2.lv,false⟩) hpt) ?_)<;>(try refine ev_ ?_)) | with_reducible exact ti_)
     refine qkz (r:=⟨tg.2.s,tg.2.lv,false⟩) (L:=[.blk (yc tg.1),.blk (yc tg.1)]) (by dsimp only;omega) (by dsimp only;omega) rfl ?_
     (refine ev_ ?_;(try with_reducible exact ti_))
     all_goals (try rfl)
   | true =>
     have hlp:=qha hpt
     simp only [arrS,List.length_cons,List.length_nil] at hlp
     have htm:=hT n' (by omega) (cutR 4 tg.2) (qd4 hks 4) (by show 0≤tg.2.lv;omega) (by show tg.2.lv≤200;omega) (by rw [qgx];omega)
     have htl:=(q6d (n:=n') (by omega) (cutR 4 tg.2)).2.1
     have hct:cutR 4 tg.2 = ⟨tg.2.s.drop 4,tg.2.lv,false⟩:=by rw [cutR,hbt]
     rw [hct] at htm htl ⊢
     generalize qeq n' ⟨tg.2.s.drop 4,tg.2.lv,false⟩ = p2 at htm htl ⊢
     rw [if_pos ⟨rfl,rfl⟩]
     repeat' (first | refine vs_ ?_ | ((first | refine vr_ ?_ | fail)<;>(try simp only [hbt,go_sem,↓reduceIte])) | ((first | (refine cs_ ?_ ?_<;>intro hc) | refine cj_ ?_ | simp (disch:=omega) only [encs_getN,qb] | refine qce 0 (qna (r:=⟨tg.2.s,tg.2.lv,false⟩) hpt) ?_ | refine q9y 0 htm ?_)<;>(try refine ev_ ?_)) | with_reducible exact ti_)
     refine qkz (r:=p2.2) (L:=[.blk [.str [45,62],.int .i64 0,.lit 3 [encY tg.1,encY p2.1]],.blk (yc tg.1)]) (by dsimp only at htl;omega) (by dsimp only at htl;omega) rfl ?_
     (refine ev_ ?_;(try with_reducible exact ti_))
     exact ⟨rfl,rfl⟩
theorem qbwv:∀ N,(∀ n,n≤N->RA n)∧∀ n,n≤N->RT n:=fun N=>by
 induction N with
 | zero=>exact ⟨fun n hn r _ _ _ h=>by omega,fun n hn r _ _ _ h=>by omega⟩
 | succ N ih =>
   have hT:RT (N + 1):=qb4n ih.1 ih.2
   have hA:RA (N + 1):=qb35 (ih.2 N (Nat.le_refl N))
   refine ⟨fun n hn=>?_,fun n hn=>?_⟩
   ·rcases Nat.lt_or_ge n (N + 1) with h | h
    ·exact ih.1 n (by omega)
    ·rw [show n = N + 1 by omega];exact hA
   ·rcases Nat.lt_or_ge n (N + 1) with h | h
    ·exact ih.2 n (by omega)
    ·rw [show n = N + 1 by omega];exact hT
theorem qtv {n:Nat} {r:Rd} (hk:ascS r.s) (h0:0≤r.lv) (h1:r.lv≤200) (hn:3 * r.s.length + 2≤n):VM Tryz.prog 40 (rdE r) (rdE (qeq n r).2) [.ptr 0 0] (encY (qeq n r).1):=(qbwv n).2 n (Nat.le_refl n) r hk h0 h1 hn
def qg0 (s:List UInt8):Ty×Rd:=qeq (3 * s.length + 2) ⟨s,0,false⟩
def q0e (s:List UInt8):Ty×Int:=if (qg0 s).2.bad = true then (Y0,5) else if (qg0 s).2.s = [] then (if qjr (qg0 s).1 = s then ((qg0 s).1,0) else (Y0,5)) else (Y0,5)
def rdOK (s:List UInt8):Prop:=ascS s∧szY (qg0 s).1≤20000∧dpY (qg0 s).1≤300∧(qjr (qg0 s).1).length≤Big
theorem qma {s:List UInt8} (h:rdOK s):qg Tryz.prog 22 [.str s] (.tup [encY (q0e s).1,.int .i64 (q0e s).2]):=by
 refine qd c0ee (by simp) (by simp only [go_sem]) (by simp [AV.bd,AV.bds,qb7]) fun hw=>?_
 obtain ⟨h1,h2,h3,h4⟩:=h
 have hr:=qtv (n:=3 * s.length + 2) (r:=⟨s,0,false⟩) h1 (Int.le_refl 0) (show (0:Int)≤200 by decide) (Nat.le_refl _)
 have ht:=qmq h2 h3 h4
 have hY:q0e s = if (qg0 s).2.bad = true then (Y0,5) else if (qg0 s).2.s = [] then (if qjr (qg0 s).1 = s then ((qg0 s).1,0) else (Y0,5)) else (Y0,5):=rfl
 change VM _ _ _ (rdE (qg0 s).2) _ (encY (qg0 s).1) at hr
 generalize qg0 s = p at *
 cases hb:p.2.bad with
 | true =>
   rw [hb,if_pos rfl] at hY
   rw [hY]
   repeat' (first | refine vs_ ?_ | ((first | refine vr_ ?_ | fail)<;>(try simp only [hb,go_sem,↓reduceIte])) | ((first | (refine cs_ ?_ ?_<;>intro hc) | refine cj_ ?_ | fail | refine qce 1 hr ?_)<;>(try refine ev_ ?_)) | with_reducible exact ti_)
   all_goals rfl
 | false =>
   rw [hb,if_neg (by simp)] at hY
   rw [hY]
   by_cases he:p.2.s = []
   ·by_cases h5:qjr p.1 = s
    ·rw [if_pos he,if_pos h5]
     repeat' (first | refine vs_ ?_ | ((first | refine vr_ ?_ | fail)<;>(try simp only [hb,he,h5,go_sem,↓reduceIte])) | ((first | (refine cs_ ?_ ?_<;>intro hc) | refine cj_ ?_ | fail | refine qce 1 hr ?_ | refine qa ht fun _=>?_)<;>(try refine ev_ ?_)) | with_reducible exact ti_)
     all_goals rfl
    ·rw [if_pos he,if_neg h5]
     repeat' (first | refine vs_ ?_ | ((first | refine vr_ ?_ | fail)<;>(try simp only [hb,he,h5,go_sem,↓reduceIte])) | ((first | (refine cs_ ?_ ?_<;>intro hc) | refine cj_ ?_ | fail | refine qce 1 hr ?_ | refine qa ht fun _=>?_)<;>(try refine ev_ ?_)) | with_reducible exact ti_)
     all_goals rfl
   ·rw [if_neg he]
    repeat' (first | refine vs_ ?_ | ((first | refine vr_ ?_ | fail)<;>(try simp only [hb,he,go_sem,↓reduceIte])) | ((first | (refine cs_ ?_ ?_<;>intro hc) | refine cj_ ?_ | fail | refine qce 1 hr ?_ | refine qa ht fun _=>?_)<;>(try refine ev_ ?_)) | with_reducible exact ti_)
    all_goals rfl
theorem q3q {s:List UInt8} {t:Ty} {r:Rd} (h1:qg0 s = (t,r)) (h2:s.length < 1000) (h3:s.all (fun b=>decide (b.toNat < 128)) = true) (h4:szY t≤20000) (h5:dpY t≤300) (h6:(qjr t).length≤1000):rdOK s :=
 ⟨by unfold ascS;omega,by rw [h1];exact h4,by rw [h1];exact h5,by rw [h1];unfold Big;dsimp only;omega⟩
set_option maxRecDepth 4000

theorem qhz {l:List Pd} (h:fewP l = true):qg Tryz.prog 20 [.sl 4 (qp l)] (.int .i64 1):=qf9 (qbv9 l) (by rw [h];rfl)
theorem qnx {l:List Pd} (h:fewP l = false):qg Tryz.prog 20 [.sl 4 (qp l)] (.int .i64 0):=qf9 (qbv9 l) (by rw [h];rfl)
def fewI (l:List Ins):Bool:=decide (l.length≤12) && l.all fun x=>fewP x.ps && decide (x.n≤200)
theorem qb43 (l:List Ins):qg Tryz.prog 38 [.sl 4 (qcy l)] (.int .i64 (if fewI l = true then 1 else 0)):=by
 refine qd c0ec (by simp) (by simp only [go_sem]) rfl fun hw=>?_
 have hl:=(qg5 hw.1).1
 have h10:decide ((1:Int) = 0) = false:=rfl
 by_cases h12:l.length≤12
 case neg =>
  have:fewI l = false:=by rw [fewI,decide_eq_false h12,Bool.false_and]
  rw [this]
  repeat' (first | refine vs_ ?_ | ((first | refine vr_ ?_ | (refine cs_ ?_ ?_<;>intro hc) | refine cj_ ?_ | simp (disch:=omega) only [encs_getN,qb])<;>(try refine ev_ ?_)) | with_reducible exact ti_)
  all_goals first | (exfalso;omega) | rfl
 repeat' (first | refine vs_ ?_ | ((first | refine vr_ ?_ | (refine cs_ ?_ ?_<;>intro hc) | refine cj_ ?_ | simp (disch:=omega) only [encs_getN,qb])<;>(try refine ev_ ?_)) | with_reducible exact ti_)
 all_goals try (exfalso;omega)
 refine qi (S:=Nat) (fun i=>i≤l.length∧(l.take i).all (fun x=>fewP x.ps && decide (x.n≤200)) = true) (fun i=>(⟨[(0,.sl 4 (qcy l)),(3,.int .i64 i)],[]⟩,[])) (fun i=>l.length - i) ?_ fun i hi=>?_
 ·refine qf 0 [] ⟨Nat.zero_le _,rfl⟩ rfl (by simp) ?_ ?_ ?_<;>(try refine ev_ ?_)<;>(try with_reducible exact ti_)<;>(try simp (disch:=omega) only [qb,and_true,true_and])
 ·obtain ⟨hi,ha⟩:=hi
  by_cases hlt:i < l.length
  ·have hg:=qf4 hlt
   have hnx:(l.take (i + 1)).all (fun x=>fewP x.ps && decide (x.n≤200)) = (fewP (l.getD i I0).ps && decide ((l.getD i I0).n≤200)):=by
    have h1:l.take (i + 1) = l.take i ++ [l.getD i I0]:=by
     rw [List.take_add_one,List.getD_eq_getElem?_getD,List.getElem?_eq_getElem hlt];rfl
    rw [h1,List.all_append,ha];simp
   have hno:(fewP (l.getD i I0).ps && decide ((l.getD i I0).n≤200)) = false->fewI l = false:=fun h=>by
    cases hf:fewI l with
    | false=>rfl
    | true =>
      rw [fewI,Bool.and_eq_true] at hf
      rw [List.all_eq_true.1 hf.2 _ (qdy hlt)] at h
      cases h
   cases hp:fewP (l.getD i I0).ps with
   | false =>
     rw [hno (by rw [hp];rfl)]
     repeat' (first | refine vs_ ?_ | ((first | refine vr_ ?_ | fail)<;>(try simp only [hg,go_sem,↓reduceIte])) | ((first | simp (disch:=omega) only [hg] | (refine cs_ ?_ ?_<;>intro hc) | refine cj_ ?_ | simp (disch:=omega) only [encs_getN,qb] | refine qa (qnx hp) fun _=>?_)<;>(try refine ev_ ?_)) | with_reducible exact ti_)
     all_goals try (exfalso;omega)
     all_goals rfl
   | true =>
     rw [hp,Bool.true_and] at hnx hno
     by_cases hn:(l.getD i I0).n≤200
     ·repeat' (first | refine vs_ ?_ | ((first | refine vr_ ?_ | fail)<;>(try simp (disch:=first | omega | (simp only [List.length_set,List.length_append,List.length_cons,List.length_nil];done) | (simp only [List.length_set,List.length_append,List.length_cons,List.length_nil];omega)) only [h10,hg,qb,go_sem,↓reduceIte])) | ((first | simp (disch:=omega) only [hg] | (refine cs_ ?_ ?_<;>intro hc) | refine cj_ ?_ | simp (disch:=omega) only [encs_getN,qb] | refine qa (qhz hp) fun _=>?_)<;>(try refine ev_ ?_)) | with_reducible exact ti_)
      all_goals try (exfalso;omega)
      refine qf (i + 1) [] ⟨⟨by omega,by rw [hnx,decide_eq_true hn]⟩,by omega⟩ rfl (by simp) ?_ ?_ ?_<;>(try refine ev_ ?_)<;>(try with_reducible exact ti_)<;>(try simp (disch:=omega) only [qb,and_true,true_and])
     ·rw [hno (decide_eq_false hn)]
      repeat' (first | refine vs_ ?_ | ((first | refine vr_ ?_ | fail)<;>(try simp (disch:=first | omega | (simp only [List.length_set,List.length_append,List.length_cons,List.length_nil];done) | (simp only [List.length_set,List.length_append,List.length_cons,List.length_nil];omega)) only [h10,hg,qb,go_sem,↓reduceIte])) | ((first | simp (disch:=omega) only [hg] | (refine cs_ ?_ ?_<;>intro hc) | refine cj_ ?_ | simp (disch:=omega) only [encs_getN,qb] | refine qa (qhz hp) fun _=>?_)<;>(try refine ev_ ?_)) | with_reducible exact ti_)
      all_goals try (exfalso;omega)
      all_goals rfl
  ·have hie:i = l.length:=by omega
   subst hie
   rw [List.take_length] at ha
   have:fewI l = true:=by rw [fewI,decide_eq_true h12,ha];rfl
   rw [this]
   repeat' (first | refine vs_ ?_ | ((first | refine vr_ ?_ | (refine cs_ ?_ ?_<;>intro hc) | refine cj_ ?_ | simp (disch:=omega) only [encs_getN,qb])<;>(try refine ev_ ?_)) | with_reducible exact ti_)
   all_goals try (exfalso;omega)
theorem qj5 {l:List Pd} (hl:l.length≤maxLen) (h:fewP l = true):l.length≤30∧∀ p∈l,szY p.ty≤20000∧dpY p.ty≤300:=by
 rw [fewP,Bool.and_eq_true,decide_eq_true_eq] at h
 refine ⟨h.1,fun p hp=>?_⟩
 have:=qblo (l:=l.map Pd.ty) (by rw [List.length_map];exact hl) h.2
 have hm:p.ty∈l.map Pd.ty:=List.mem_map_of_mem hp
 have h1:=qgt hm
 have h2:=qkh hm
 omega
theorem qbba {l:List Ins} (hw:∀ x∈l,x.ps.length≤maxLen) (h:fewI l = true):∀ x∈l,smlI x∧x.ps.length≤30∧x.n≤200:=fun x hx=>by
 rw [fewI,Bool.and_eq_true] at h
 have h1:=List.all_eq_true.1 h.2 x hx
 simp only [Bool.and_eq_true,decide_eq_true_eq] at h1
 obtain ⟨a,b⟩:=qj5 (hw x hx) h1.1
 exact ⟨⟨by omega,b⟩,a,h1.2⟩
def wInt:Ty:=⟨[73,110,116],0,[]⟩
end Go.Proofs.YtgglaabljlhliaaGreat
