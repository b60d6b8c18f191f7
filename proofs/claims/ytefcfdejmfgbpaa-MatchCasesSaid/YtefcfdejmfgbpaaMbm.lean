/- Texts of this proof, joined. -/
import Derived.Test.YtefcfdejmfgbpaaMbl
import Derived.Test.YtefcfdejmfgbpaaMay
import Derived.Test.YtefcfdejmfgbpaaMbj
import Derived.Test.YtefcfdejmfgbpaaMbk
import Derived.Test.YtefcfdejmfgbpaaMbi
set_option linter.unusedVariables false
set_option linter.unusedSimpArgs false

/- the reader of terms: a term that is read -/
set_option maxRecDepth 4000
namespace Go.Proofs.Ytefcfdejmfgbpaa
open Go Go.RowKit Go.V

theorem qzm {n:Nat} {r0:Rd} {tg:Ty×Rd} (hA:∀ m,m≤n->RA m) (hk0:r0.s.length < 4294967281) (h0:0≤r0.lv) (h1:r0.lv≤200) {Q:VE->AF->List Ent->Prop} {af:AF} {H:List Ent}
 (hat:At (Bool×Nat×Ty×Rd) (fun x=>tmI n r0 tg x.2) tmSf 1 af H) (hQ:∀ af H,At Unit (fun _=>True) (fun _=>tmSt (0,tg)) 1 af H->Q .nrm af H):VI Try.prog none 67 1 (.block 0 (.loop qkg)) Q af H :=
 (qs3 (Q:=Q) hA hk0 h0 h1 hat).mono fun e af H hq=>by
  cases e with
  | nrm=>exact hQ af H hq
  | _=>exact hq
theorem qbf4 {n:Nat} (hA:∀ m,m≤n->RA m) (hT:∀ m,m≤n->RT m):RT (n + 1):=fun r hk h0 h1 hn=>by
 by_cases hb:r.bad = true∨200 < r.lv + 1
 ·rw [qde,if_pos hb]
  exact qxk hb h0 h1
 rw [qde,if_neg hb]
 have hb1:r.bad = false:=by cases h:r.bad with | false=>rfl | true=>exact absurd (.inl h) hb
 have hb2:¬ 200 < r.lv + 1:=fun h=>hb (.inr h)
 have hw:IntKind.i64.wrap (r.lv + 1) = r.lv + 1:=qw (by omega) (by omega)
 have hatm:=hA n (Nat.le_refl n) (lvR (r.lv + 1) r) hk (by show 0≤r.lv + 1;omega) (by show r.lv + 1≤200;omega) (by show 3 * r.s.length + 1≤n;omega)
 have hsf:=qow (n:=n) (by omega) (lvR (r.lv + 1) r)
 have hl:lvR (r.lv + 1) r = ⟨r.s,r.lv + 1,false⟩:=by rw [lvR,hb1]
 rw [hl] at hatm hsf ⊢
 generalize qco n ⟨r.s,r.lv + 1,false⟩ = p0 at hatm hsf ⊢
 have hsm:=qe5 ⟨hsf.1,hsf.2.1⟩ (qy2 n p0.1 p0.2) hsf.2.2
 generalize htg:qiy n p0.1 p0.2 = tg at hsm ⊢
 have hks:=qbbt hsm hk
 obtain ⟨p1,p2,p3⟩:=hsf
 obtain ⟨s1,s2,s3⟩:=hsm
 dsimp only at p1 p2 p3 s1 s2 s3 hks
 refine qja c0cc 1 (by simp) (by simp) ?_
 unfold k0cc
 refine qb1 ?_
 repeat' (first | refine vs_ ?_ | ((first | refine vr_ ?_ | fail)<;>(try simp only [hw,hb2,decide_false,go_sem,↓reduceIte])) | ((first | (refine cs_ ?_ ?_<;>intro hc) | refine cj_ ?_ | simp (disch:=omega) only [encs_getN,qc])<;>(try refine ev_ ?_)) | with_reducible exact ti_)
 refine qtq ?_
 (refine ev_ ?_;(try with_reducible exact ti_))
 refine ⟨_,[],[.ptr 1 0],rfl,?_⟩
 refine qc1 (S:=Unit) (fun _=>True) (fun _=>(⟨[(1,.ptr 1 0),(2,.ptr 2 0)],dl1⟩,[rdE ⟨r.s,r.lv + 1,false⟩,.blk [.ptr 0 0],.blk z1Y])) ?_ fun _ _=>?_
 ·repeat' (first | refine vs_ ?_ | ((first | refine vr_ ?_ | fail)<;>(try simp only [hb1,go_sem,↓reduceIte])) | ((first | (refine cs_ ?_ ?_<;>intro hc) | refine cj_ ?_ | simp (disch:=omega) only [encs_getN,qc])<;>(try refine ev_ ?_)) | with_reducible exact ti_)
  refine qu () [0,1,2] trivial rfl (by simp) ?_ ?_ ?_<;>simp only [dl1,hb1]<;>(try refine ev_ ?_)<;>(try with_reducible exact ti_)<;>(try simp (disch:=omega) only [qc,and_true,true_and])
 refine qc1 (S:=Unit) (fun _=>True) (fun _=>tmSf (false,n,p0.1,p0.2)) ?_ fun _ _=>?_
 ·repeat' (first | refine vs_ ?_ | ((first | refine vr_ ?_ | refine qbj 0 hatm ?_ | (refine cs_ ?_ ?_<;>intro hc) | refine cj_ ?_ | simp (disch:=omega) only [encs_getN,qc])<;>(try refine ev_ ?_)) | with_reducible exact ti_)
  refine qu () [0,1,2,3] trivial rfl (by simp) ?_ ?_ ?_<;>simp only [tmSf,tmSt,dl1,Bool.false_eq_true,if_false]<;>(try refine ev_ ?_)<;>(try with_reducible exact ti_)<;>(try simp (disch:=omega) only [qc,and_true,true_and])
 have hin:tmI n ⟨r.s,r.lv + 1,false⟩ tg (n,p0.1,p0.2):=⟨htg,by dsimp only;omega,Nat.le_refl _,by obtain ⟨j,q⟩:=p1;dsimp only;rw [q];exact qcs hk j,p2,by dsimp only;omega⟩
 have hat0:At (Bool×Nat×Ty×Rd) (fun x=>tmI n ⟨r.s,r.lv + 1,false⟩ tg x.2) tmSf 1 (tmSf (false,n,p0.1,p0.2)).1 (tmSf (false,n,p0.1,p0.2)).2:=by
  refine qu (false,n,p0.1,p0.2) [0,1,2,3] hin rfl (by simp) ?_ ?_ ?_<;>simp only [tmSf,tmSt,dl1,Bool.false_eq_true,if_false]<;>(try refine ev_ ?_)<;>(try with_reducible exact ti_)<;>(try simp (disch:=omega) only [qc,and_true,true_and])
 refine qb1 (qzm (r0:=⟨r.s,r.lv + 1,false⟩) hA hk (by dsimp only;omega) (by dsimp only;omega) hat0 fun af H hat=>qt5 hat fun _ _=>?_)
 unfold tmSt
 obtain ⟨n',rfl⟩:∃ n',n = n' + 1:=⟨n - 1,by omega⟩
 rw [qs7]
 cases hbt:tg.2.bad with
 | true =>
   rw [if_neg (by simp)]
   repeat' (first | refine vs_ ?_ | ((first | refine vr_ ?_ | fail)<;>(try simp only [hbt,go_sem,↓reduceIte])) | ((first | (refine cs_ ?_ ?_<;>intro hc) | refine cj_ ?_ | simp (disch:=omega) only [encs_getN,qc])<;>(try refine ev_ ?_)) | with_reducible exact ti_)
   refine qio (r:=⟨tg.2.s,tg.2.lv,true⟩) (L:=[.blk (yc tg.1),.blk (yc tg.1)]) (by dsimp only;omega) (by dsimp only;omega) rfl ?_
   (refine ev_ ?_;(try with_reducible exact ti_))
   all_goals (try rfl)
 | false =>
   cases hpt:pfx arrS tg.2.s with
   | false =>
     rw [if_neg (by simp)]
     repeat' (first | refine vs_ ?_ | ((first | refine vr_ ?_ | fail)<;>(try simp only [hbt,go_sem,↓reduceIte])) | ((first | (refine cs_ ?_ ?_<;>intro hc) | refine cj_ ?_ | simp (disch:=omega) only [encs_getN,qc] | refine qbj 0 (qlr (r:=⟨tg.2.s,tg.2.lv,false⟩) hpt) ?_)<;>(try refine ev_ ?_)) | with_reducible exact ti_)
     refine qio (r:=⟨tg.2.s,tg.2.lv,false⟩) (L:=[.blk (yc tg.1),.blk (yc tg.1)]) (by dsimp only;omega) (by dsimp only;omega) rfl ?_
     (refine ev_ ?_;(try with_reducible exact ti_))
     all_goals (try rfl)
   | true =>
     have hlp:=qez hpt
     simp only [arrS,List.length_cons,List.length_nil] at hlp
     have htm:=hT n' (by omega) (cutR 4 tg.2) (qcs hks 4) (by show 0≤tg.2.lv;omega) (by show tg.2.lv≤200;omega) (by rw [qep];omega)
     have htl:=(qyi (n:=n') (by omega) (cutR 4 tg.2)).2.1
     have hct:cutR 4 tg.2 = ⟨tg.2.s.drop 4,tg.2.lv,false⟩:=by rw [cutR,hbt]
     rw [hct] at htm htl ⊢
     generalize qde n' ⟨tg.2.s.drop 4,tg.2.lv,false⟩ = p2 at htm htl ⊢
     rw [if_pos ⟨rfl,rfl⟩]
     repeat' (first | refine vs_ ?_ | ((first | refine vr_ ?_ | fail)<;>(try simp only [hbt,go_sem,↓reduceIte])) | ((first | (refine cs_ ?_ ?_<;>intro hc) | refine cj_ ?_ | simp (disch:=omega) only [encs_getN,qc] | refine qbj 0 (qi6 (r:=⟨tg.2.s,tg.2.lv,false⟩) hpt) ?_ | refine qvz 0 htm ?_)<;>(try refine ev_ ?_)) | with_reducible exact ti_)
     refine qio (r:=p2.2) (L:=[.blk [.str [45,62],.int .i64 0,.lit 3 [encY tg.1,encY p2.1]],.blk (yc tg.1)]) (by dsimp only at htl;omega) (by dsimp only at htl;omega) rfl ?_
     (refine ev_ ?_;(try with_reducible exact ti_))
     exact ⟨rfl,rfl⟩
theorem qbc6:∀ N,(∀ n,n≤N->RA n)∧∀ n,n≤N->RT n:=fun N=>by
 induction N with
 | zero=>exact ⟨fun n hn r _ _ _ h=>by omega,fun n hn r _ _ _ h=>by omega⟩
 | succ N ih =>
   have hT:RT (N + 1):=qbf4 ih.1 ih.2
   have hA:RA (N + 1):=qbgc (ih.2 N (Nat.le_refl N))
   refine ⟨fun n hn=>?_,fun n hn=>?_⟩
   ·rcases Nat.lt_or_ge n (N + 1) with h | h
    ·exact ih.1 n (by omega)
    ·rw [show n = N + 1 by omega];exact hA
   ·rcases Nat.lt_or_ge n (N + 1) with h | h
    ·exact ih.2 n (by omega)
    ·rw [show n = N + 1 by omega];exact hT
theorem qnn {n:Nat} {r:Rd} (hk:ascS r.s) (h0:0≤r.lv) (h1:r.lv≤200) (hn:3 * r.s.length + 2≤n):VM Try.prog 32 (rdE r) (rdE (qde n r).2) [.ptr 0 0] (encY (qde n r).1):=(qbc6 n).2 n (Nat.le_refl n) r hk h0 h1 hn
def qes (s:List UInt8):Ty×Rd:=qde (3 * s.length + 2) ⟨s,0,false⟩
def qx4 (s:List UInt8):Ty×Int:=if (qes s).2.bad = true then (Y0,5) else if (qes s).2.s = [] then (if qh7 (qes s).1 = s then ((qes s).1,0) else (Y0,5)) else (Y0,5)
def rdOK (s:List UInt8):Prop:=ascS s∧szY (qes s).1≤20000∧dpY (qes s).1≤300∧(qh7 (qes s).1).length≤Big
theorem qqw {s:List UInt8} (h:rdOK s):qo Try.prog 18 [.str s] (.tup [encY (qx4 s).1,.int .i64 (qx4 s).2]):=by
 refine qj c0cd (by simp) (by simp only [go_sem]) (by simp [AV.bd,AV.bds,qbd]) fun hw=>?_
 obtain ⟨h1,h2,h3,h4⟩:=h
 have hr:=qnn (n:=3 * s.length + 2) (r:=⟨s,0,false⟩) h1 (Int.le_refl 0) (show (0:Int)≤200 by decide) (Nat.le_refl _)
 have ht:=qjz h2 h3 h4
 have hY:qx4 s = if (qes s).2.bad = true then (Y0,5) else if (qes s).2.s = [] then (if qh7 (qes s).1 = s then ((qes s).1,0) else (Y0,5)) else (Y0,5):=rfl
 change VM _ _ _ (rdE (qes s).2) _ (encY (qes s).1) at hr
 generalize qes s = p at *
 cases hb:p.2.bad with
 | true =>
   rw [hb,if_pos rfl] at hY
   rw [hY]
   repeat' (first | refine vs_ ?_ | ((first | refine vr_ ?_ | fail)<;>(try simp only [hb,go_sem,↓reduceIte])) | ((first | (refine cs_ ?_ ?_<;>intro hc) | refine cj_ ?_ | fail | refine qbj 1 hr ?_)<;>(try refine ev_ ?_)) | with_reducible exact ti_)
   all_goals rfl
 | false =>
   rw [hb,if_neg (by simp)] at hY
   rw [hY]
   by_cases he:p.2.s = []
   ·by_cases h5:qh7 p.1 = s
    ·rw [if_pos he,if_pos h5]
     repeat' (first | refine vs_ ?_ | ((first | refine vr_ ?_ | fail)<;>(try simp only [hb,he,h5,go_sem,↓reduceIte])) | ((first | (refine cs_ ?_ ?_<;>intro hc) | refine cj_ ?_ | fail | refine qbj 1 hr ?_ | refine qa ht fun _=>?_)<;>(try refine ev_ ?_)) | with_reducible exact ti_)
     all_goals rfl
    ·rw [if_pos he,if_neg h5]
     repeat' (first | refine vs_ ?_ | ((first | refine vr_ ?_ | fail)<;>(try simp only [hb,he,h5,go_sem,↓reduceIte])) | ((first | (refine cs_ ?_ ?_<;>intro hc) | refine cj_ ?_ | fail | refine qbj 1 hr ?_ | refine qa ht fun _=>?_)<;>(try refine ev_ ?_)) | with_reducible exact ti_)
     all_goals rfl
   ·rw [if_neg he]
    repeat' (first | refine vs_ ?_ | ((first | refine vr_ ?_ | fail)<;>(try simp only [hb,he,go_sem,↓reduceIte])) | ((first | (refine cs_ ?_ ?_<;>intro hc) | refine cj_ ?_ | fail | refine qbj 1 hr ?_ | refine qa ht fun _=>?_)<;>(try refine ev_ ?_)) | with_reducible exact ti_)
    all_goals rfl
theorem qeo {s:List UInt8} {t:Ty} {r:Rd} (h1:qes s = (t,r)) (h2:s.length < 1000) (h3:s.all (fun b=>decide (b.toNat < 128)) = true) (h4:szY t≤20000) (h5:dpY t≤300) (h6:(qh7 t).length≤1000):rdOK s :=
 ⟨by unfold ascS;omega,by rw [h1];exact h4,by rw [h1];exact h5,by rw [h1];unfold Big;dsimp only;omega⟩
set_option maxRecDepth 4000

theorem qb9 {s:List UInt8} {t:Ty} {e:Int} (h:rdOK s) (hr:qx4 s = (t,e)):qo Try.prog 11 [.str s] (encY t):=by
 have hR:=qqw h
 rw [hr] at hR
 refine qj c0b (by simp) (by simp only [go_sem]) (qbd 0 _) fun hw=>?_
 repeat' (first | refine vs_ ?_ | ((first | refine vr_ ?_ | refine qa hR fun _=>?_ | (refine cs_ ?_ ?_<;>intro hc) | refine cj_ ?_ | fail)<;>(try refine ev_ ?_)) | with_reducible exact ti_)
def wC:Ty:=⟨[],2,[]⟩
def wTA:Ty:=⟨[84],0,[Y0]⟩
def fn2 (a b:Ty):Ty:=⟨[45,62],0,[a,b]⟩
theorem qbaf:qo Try.prog 11 [.str [97,32,45,62,32,97]] (encY (fn2 Y0 Y0)):=qb9 (qeo (t:=fn2 Y0 Y0) (r:=⟨[],0,false⟩) rfl (by decide) (by decide) (by decide) (by decide) (by decide)) (e:=0) rfl
theorem qbgd:qo Try.prog 11 [.str [84,32,45,62,32,85]] (encY (fn2 wT wU)):=qb9 (qeo (t:=fn2 wT wU) (r:=⟨[],0,false⟩) rfl (by decide) (by decide) (by decide) (by decide) (by decide)) (e:=0) rfl
theorem q97:qo Try.prog 11 [.str [97,32,45,62,32,98]] (encY (fn2 Y0 wB)):=qb9 (qeo (t:=fn2 Y0 wB) (r:=⟨[],0,false⟩) rfl (by decide) (by decide) (by decide) (by decide) (by decide)) (e:=0) rfl
theorem qbf7:qo Try.prog 11 [.str [98,32,45,62,32,84,32,97]] (encY (fn2 wB wTA)):=qb9 (qeo (t:=fn2 wB wTA) (r:=⟨[],0,false⟩) rfl (by decide) (by decide) (by decide) (by decide) (by decide)) (e:=0) rfl
theorem qbgn:qo Try.prog 11 [.str [98,32,45,62,32,99]] (encY (fn2 wB wC)):=qb9 (qeo (t:=fn2 wB wC) (r:=⟨[],0,false⟩) rfl (by decide) (by decide) (by decide) (by decide) (by decide)) (e:=0) rfl
theorem rd_a:qo Try.prog 11 [.str [97]] (encY Y0):=qb9 (qeo (t:=Y0) (r:=⟨[],0,false⟩) rfl (by decide) (by decide) (by decide) (by decide) (by decide)) (e:=0) rfl
theorem rd_t:qo Try.prog 11 [.str [84]] (encY wT):=qb9 (qeo (t:=wT) (r:=⟨[],0,false⟩) rfl (by decide) (by decide) (by decide) (by decide) (by decide)) (e:=0) rfl
def M1:List Pr:=[⟨0,wB⟩,⟨1,wTA⟩]
theorem mt1:matP (fn2 Y0 Y0) (fn2 wT wU) = ([],14):=by rfl
theorem mt2:matP (fn2 Y0 wB) (fn2 wB wTA) = (M1,0):=by rfl
theorem M1_ok:okS M1:=by have h:okS (matP (fn2 Y0 wB) (fn2 wB wTA)).1:=q09;rwa [mt2] at h
theorem ma1:VCalls Try.prog 10 [] [encY (fn2 Y0 Y0),encY (fn2 wT wU)] (newQ [] ([],14)):=mt1 ▸ qet (by decide) (by decide) (by decide) (by decide)
theorem ma2:VCalls Try.prog 10 [] [encY (fn2 Y0 wB),encY (fn2 wB wTA)] (newQ [] (M1,0)):=mt2 ▸ qet (by decide) (by decide) (by decide) (by decide)
theorem mg1:VM Try.prog 12 (subE M1) (subE M1) [.ptr 0 0,.int .i64 0] (.tup [encY wB,.bool true]):=qk3 M1_ok.1 (by decide) 0
theorem mb1:qo Try.prog 8 [encY Y0,encY wT] (.bool true):=qbl (by decide) (by decide) (by decide) (by decide)
theorem mb2:qo Try.prog 8 [encY wT,encY Y0] (.bool false):=qbl (by decide) (by decide) (by decide) (by decide)
theorem mk1:qo Try.prog 13 [encY (fn2 Y0 wB),encY (fn2 wB wC)] (.bool true):=qg6 (by decide) (by decide) (by decide) (by decide)
theorem mk2:qo Try.prog 13 [encY (fn2 Y0 wB),encY (fn2 Y0 Y0)] (.bool false):=qg6 (by decide) (by decide) (by decide) (by decide)
theorem bds2 (a b:Ty):AV.bds 0 [encY a,encY b] = true:=by simp only [AV.bds,qbd,Bool.and_true]
theorem qc2:qo Try.prog 5 [] (.bool true):=by
 refine qj c0c (by simp) rfl rfl fun hw=>?_
 have hv:wB.var = 1:=rfl
 repeat' (first | refine vs_ ?_ | ((first | refine vr_ ?_ | fail)<;>(try simp only [hv,go_sem,↓reduceIte])) | ((first | (refine cs_ ?_ ?_<;>intro hc) | refine cj_ ?_ | fail | refine qa qbaf fun _=>?_ | refine qa qbgd fun _=>?_ | refine qa q97 fun _=>?_ | refine qa qbf7 fun _=>?_ | refine qnc ma1 (bds2 _ _) rfl (by decide) ?_ | refine qn7 ma2 (bds2 _ _) rfl ?_ | refine qkz 0 mg1 rfl rfl ?_)<;>(try refine ev_ ?_)) | with_reducible exact ti_)
 repeat' (first | refine vs_ ?_ | ((first | refine vr_ ?_ | fail)<;>(try simp only [hv,go_sem,↓reduceIte])) | ((first | (refine cs_ ?_ ?_<;>intro hc) | refine cj_ ?_ | fail | refine qa rd_a fun _=>?_ | refine qa rd_t fun _=>?_ | refine qa mb1 fun _=>?_ | refine qa mb2 fun _=>?_)<;>(try refine ev_ ?_)) | with_reducible exact ti_)
 repeat' (first | refine vs_ ?_ | ((first | refine vr_ ?_ | fail)<;>(try simp only [hv,go_sem,↓reduceIte])) | ((first | (refine cs_ ?_ ?_<;>intro hc) | refine cj_ ?_ | fail | refine qa q97 fun _=>?_ | refine qa qbgn fun _=>?_ | refine qa qbaf fun _=>?_ | refine qa mk1 fun _=>?_ | refine qa mk2 fun _=>?_)<;>(try refine ev_ ?_)) | with_reducible exact ti_)

theorem qfj {l:List Ty} (h:qdk l = true):qo Try.prog 4 [.sl 3 (qn l)] (.int .i64 1):=qgu (qbb9 l) (by rw [h];rfl)
theorem qgy {l:List Ty} (h:qdk l = false):qo Try.prog 4 [.sl 3 (qn l)] (.int .i64 0):=qgu (qbb9 l) (by rw [h];rfl)
theorem qwg {s:List Pr} (h:okS s) {t:Ty} (he:(appR s t).2 = 0):szY (appR s t).1≤20000∧dpY (appR s t).1≤300:=by
 obtain ⟨_,q2,q3⟩:=qfz h he
 rw [q3]
 have:=(qz _).1 q2
 omega

set_option maxRecDepth 4000




theorem qvr {f:FuncId} {e e':Ent} {rest rs:List AV} {r:AV} {L:List Ent} {Kk:Md->AV->List Ent->Prop} (i:Nat) (h:VM Try.prog f e e' (.ptr 0 0 :: rest) r) (hrest:AV.bds 0 rest = true) (hr:r.bd 0 = true) (hq:Kk (.meth i e e') r (L.set i e')) (hn:e≠.dead:=by intro h;cases h) (hb:e.bd 0 = true:=by rfl) (hb':e'.bd 0 = true:=by rfl) (he:ent L i = e:=by rfl) :
 DApp Try.prog L (.fn f [] []) (.ptr i 0 :: rest) rs Kk:=by
 refine qvz i h hq hn hb hb' he hr ?_ ?_
 ·rw [List.append_nil,AV.rens,qm (m:=0) (fun j hj=>by omega) rest hrest];rfl
 ·rw [AV.bds,Bool.and_eq_true]
  exact ⟨rfl,qb4 (Nat.zero_le _) _ hrest⟩
end Go.Proofs.Ytefcfdejmfgbpaa
