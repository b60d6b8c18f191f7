/- Texts of this proof, joined. -/
import Derived.Test.YtfjbmjplnmaclaaJap
import Derived.Test.YtfjbmjplnmaclaaJaq
set_option linter.unusedVariables false
set_option linter.unusedSimpArgs false

/- the cursor: what it is, what its methods do -/
set_option maxRecDepth 4000
namespace Go.Proofs.Ytfjbmjplnmaclaa
open Go Go.RowKit Go.V

attribute [go_sem] cond_true cond_false
structure K where
 l:List T
 ep:Int
 at':Nat
 nest:Nat
 err:Int
 pos:Int
def K.ok (c:K):Prop:=c.at'≤c.l.length∧c.l.length≤maxLen
def curE (c:K):Ent:=.blk [.sl 4 (qdq c.l),.int .i64 0,.int .i64 c.ep,.int .i64 0,.str [],.int .i64 c.at',.int .i64 c.nest,.int .i64 c.err,.int .i64 c.pos]
def K.bad (c:K):Bool:=!decide (c.err = 0)
theorem qg8 {c:K} (h:c.bad = false):c.err = 0:=by simpa [K.bad] using h
theorem qhf {c:K} (h:c.bad = true):¬ c.err = 0:=by simpa [K.bad] using h
def qi (c:K):T:=if c.err = 0 then if c.at' < c.l.length then c.l.getD c.at' T0 else ⟨0,c.ep,0,[]⟩ else T0
def qg (c:K):K:=if c.err = 0 then if c.at' < c.l.length then { c with at':=c.at' + 1 } else c else c
def qfm (t:T) (s:List UInt8):Bool:=(decide (t.kind = 4) || decide (t.kind = 5)) && decide (t.text = s)
def isK (c:K) (s:List UInt8):Bool:=decide (c.err = 0) && qfm (qi c) s
def qdy (c:K) (e:Int):K:=if c.err = 0 then { c with err:=if e = 0 then 1 else e,pos:=(qi c).pos } else c
def qd (c:K) (s:List UInt8):K×Bool:=if isK c s = true then (qg c,true) else (c,false)
def qc (c:K) (s:List UInt8):K×Bool:=if isK c s = true then (qg c,true) else (qdy c 5,false)
def qa (c:K):K×Bool:=if c.err = 0 then if c.nest < 200 then ({ c with nest:=c.nest + 1 },true) else (qdy c 2,false) else (c,false)
def qb4 (c:K):K:=if c.err = 0 then if 0 < c.nest then { c with nest:=c.nest - 1 } else c else c
def qhg (c:K):Int×Int:=if c.err = 0 then if c.at' < c.l.length then ((c.l.getD c.at' T0).pos,5) else (c.ep,0) else (c.pos,c.err)

theorem qu (k:Nat) (c:K):(curE c).bd k = true:=by
 simp only [curE,Ent.bd,AV.bds,AV.bd,qlr,Bool.and_true]
theorem qcq (σ:Nat->Nat) (c:K):(curE c).ren σ = curE c:=Ent.ren_same (m:=0) (fun i hi=>by omega) _ (qu 0 c)
attribute [go_sem] curE
def qb2 (P:Program) (f:FuncId) (e e':Ent) (args:List AV) (r:AV):Prop:=VCalls P f [e] args fun H' o=>H' = [e']∧o = .val r
section
variable {P:Program} {f:FuncId} {e e':Ent} {L:List Ent} {args:List AV} {r:AV} {Q:List Ent->VO->Prop}
theorem qby (h:qb2 P f e e' args r) (hb:e.bd 1 = true) (hb':e'.bd 1 = true) (ha:AV.bds 1 args = true) (hr:r.bd 1 = true) (hq:r.wf->Q (e' :: L) (.val r)):VApp P (e :: L) (.fn f [] []) args Q :=
 qb0 (first:=[]) (caps:=[]) (by
  simp only [List.nil_append,List.append_nil]
  refine qcy (H0:=[e]) (L:=L) (h.mono' (Q':=fun H' o=>(H' = [e']∧o = .val r)∧r.wf) fun H' o hw ho=>⟨ho,by have:=ho.2;subst this;exact hw⟩) (by simp [hb]) ha ?_
  rintro H1 o ⟨⟨rfl,rfl⟩,hw⟩
  exact ⟨rfl,by simp [hb'],hr,hq hw⟩)
theorem q46 (h:qb2 P f e e args r) (hb:e.bd 1 = true) (ha:AV.bds 1 args = true) (hr:r.bd 1 = true) {rs:List AV} {Kk:Md->AV->List Ent->Prop} (hq:r.wf->Kk .here r (e :: L)) (hw:r.wf):DApp P (e :: L) (.fn f [] []) args rs Kk :=
 .inl ⟨r,qby h hb hb ha hr fun _=>⟨rfl,rfl⟩,hq hw⟩
theorem qb1c (h:qb2 P f e e' args r) (hb:e.bd 1 = true) (hb':e'.bd 1 = true) (ha:AV.bds 1 args = true) (hr:r.bd 1 = true) (hn:e≠.dead) {rs:List AV} {Kk:Md->AV->List Ent->Prop} (hq:Kk (.meth 0 e e') r (e' :: L)):DApp P (e :: L) (.fn f [] []) args rs Kk :=
 .inr (.inr (.inl ⟨r,0,e,e',⟨hn,rfl,fun H₀ h0=>by
  cases H₀ with
  | nil=>exact absurd h0.symm hn
  | cons x L' =>
    cases (show x = e from h0)
    exact qby h hb hb' ha hr fun _=>⟨rfl,rfl⟩⟩,hq⟩))
end

theorem qr6 (c:K):qb2 Try.prog 30 (curE c) (curE c) [.ptr 0 0] (.bool c.bad):=by
 refine ql c0bc 1 (by simp) (by simp) ?_
 unfold K.bad
 repeat' (first | refine vs_ ?_ | ((first | refine vr_ ?_ | (refine cs_ ?_ ?_<;>intro hc) | refine cj_ ?_ | fail)<;>(try refine ev_ ?_)) | with_reducible exact ti_)
section
variable {c:K} {L:List Ent} {Q:List Ent->VO->Prop} {rs:List AV} {Kk:Md->AV->List Ent->Prop}
theorem qgy (h:Q (curE c :: L) (.val (.bool c.bad))):VApp Try.prog (curE c :: L) (.fn 30 [] []) [.ptr 0 0] Q:=qby (qr6 c) (qu _ _) (qu _ _) rfl rfl fun _=>h
theorem qbbj (h:Kk .here (.bool c.bad) (curE c :: L)):DApp Try.prog (curE c :: L) (.fn 30 [] []) [.ptr 0 0] rs Kk:=q46 (qr6 c) (qu _ _) rfl rfl (fun _=>h) trivial
end
section
variable {c:K}
theorem qgo (h:¬ c.err = 0):qi c = T0:=if_neg h
theorem qsr (h:c.err = 0) (h2:(c.at':Int) < c.l.length):qi c = c.l.getD c.at' T0:=by rw [qi,if_pos h,if_pos (by omega)]
theorem qwq (h:c.err = 0) (h2:¬ (c.at':Int) < c.l.length):qi c = ⟨0,c.ep,0,[]⟩:=by rw [qi,if_pos h,if_neg (by omega)]
theorem q62 (h:¬ c.err = 0):qg c = c:=if_neg h
theorem q1w (h:c.err = 0) (h2:(c.at':Int) < c.l.length):qg c = { c with at':=c.at' + 1 }:=by rw [qg,if_pos h,if_pos (by omega)]
theorem q4u (h:c.err = 0) (h2:¬ (c.at':Int) < c.l.length):qg c = c:=by rw [qg,if_pos h,if_neg (by omega)]
theorem qeq {e:Int} (h:¬ c.err = 0):qdy c e = c:=if_neg h
theorem qbj0 (h:c.err = 0):qdy c 0 = { c with err:=1,pos:=(qi c).pos }:=by rw [qdy,if_pos h,if_pos rfl]
theorem qbk5 {e:Int} (h:c.err = 0) (he:¬ e = 0):qdy c e = { c with err:=e,pos:=(qi c).pos }:=by rw [qdy,if_pos h,if_neg he]
end
section
variable {c:K} {x:List UInt8}
theorem qgj (h:isK c x = true):qd c x = (qg c,true):=if_pos h
theorem qe3 (h:isK c x = false):qd c x = (c,false):=by rw [qd,h];rfl
theorem qbs0 (h:(qd c x).2 = true):qc c x = ((qd c x).1,true):=by
 unfold qd qc at *
 split at h
 ·rename_i h1;rw [if_pos h1,if_pos h1]
 ·cases h
theorem qbkh (h:(qd c x).2 = false):qc c x = (qdy (qd c x).1 5,false):=by
 unfold qd qc at *
 split at h
 ·cases h
 ·rename_i h1;rw [if_neg h1,if_neg h1]
theorem qjq (h:¬ c.err = 0):qa c = (c,false):=if_neg h
theorem q8p (h:c.err = 0) (h2:¬ (200:Int)≤c.nest):qa c = ({ c with nest:=c.nest + 1 },true):=by rw [qa,if_pos h,if_pos (by omega)]
theorem qyr (h:c.err = 0) (h2:(200:Int)≤c.nest):qa c = (qdy c 2,false):=by rw [qa,if_pos h,if_neg (by omega)]
theorem q3k (h:¬ c.err = 0):qb4 c = c:=if_neg h
theorem q5y (h:c.err = 0) (h2:(0:Int) < c.nest):qb4 c = { c with nest:=c.nest - 1 }:=by rw [qb4,if_pos h,if_pos (by omega)]
theorem qbcz (h:c.err = 0) (h2:¬ (0:Int) < c.nest):qb4 c = c:=by rw [qb4,if_pos h,if_neg (by omega)]
theorem qpu (h:¬ c.err = 0):qhg c = (c.pos,c.err):=if_neg h
theorem q0z (h:c.err = 0) (h2:(c.at':Int) < c.l.length):qhg c = ((c.l.getD c.at' T0).pos,5):=by rw [qhg,if_pos h,if_pos (by omega)]
theorem qvx (h:c.err = 0) (h2:¬ (c.at':Int) < c.l.length):qhg c = (c.ep,0):=by rw [qhg,if_pos h,if_neg (by omega)]
end
theorem qba5 (c:K):qb2 Try.prog 19 (curE c) (curE c) [.ptr 0 0] (encT (qi c)):=by
 refine ql c0bd 1 (by simp) (by simp) ?_
 repeat' (first | refine vs_ ?_ | ((first | refine vr_ ?_ | refine qgy ?_ | simp (disch:=omega) only [qf8] | (refine cs_ ?_ ?_<;>intro hc) | refine cj_ ?_ | simp (disch:=omega) only [qk,qbb])<;>(try refine ev_ ?_)) | with_reducible exact ti_)
 ·rw [qgo (qhf (by assumption))];rfl
 ·rw [qsr (qg8 (by assumption)) (by assumption)]
 ·rw [qwq (qg8 (by assumption)) (by assumption)];rfl
section
variable {c:K} {L:List Ent} {Q:List Ent->VO->Prop} {rs:List AV} {Kk:Md->AV->List Ent->Prop}
theorem qbv (h:Q (curE c :: L) (.val (encT (qi c)))):VApp Try.prog (curE c :: L) (.fn 19 [] []) [.ptr 0 0] Q:=qby (qba5 c) (qu _ _) (qu _ _) rfl rfl fun _=>h
end
def qck (t:T) (ls:List (List UInt8)):Bool:=(decide (t.kind = 4) || decide (t.kind = 5)) && ls.contains t.text
theorem q75 (t:T) (ls:List (List UInt8)):qc9 Try.prog 52 [encT t,.sl 1 (ls.map AV.str)] (.bool (qck t ls)):=by
 refine qb3 c0be (by simp) (by simp only [go_sem]) rfl fun hw=>?_
 have h1:ls.length≤maxLen:=by have:=hw.2.1.1;rwa [q1d] at this
 have loop:∀ (Q:VE->AF->List Ent->Prop) (tm:List (Nat×AV)) (H:List Ent),qck t ls = ls.contains t.text->H = [.blk [.int .i64 t.kind,.int .i64 t.pos,.int .i64 t.num,.str t.text]] →
  (get tm 2 = .ptr 0 0∧get tm 15 = .sl 1 (ls.map AV.str)∧get tm 16 = .int .i64 ls.length∧get tm 17 = .int .i64 0) →
  Q = blq 0 (sq Try.prog none 26 0 (k0be_r11.seq IC.ret) (retq 0 [(RV.t 4,Co.id)] fun H' o=>o = VO.val (AV.bool (qck t ls)))) →
  VI Try.prog none 26 0 k0be_l4.loop Q ⟨tm,[]⟩ H:=by
  rintro Q tm H hwd rfl ⟨h2,h15,h16,h17⟩ rfl
  rw [hwd]
  refine qct (S:=Nat) (fun i=>i≤ls.length∧ls.contains t.text = (ls.drop i).contains t.text) (fun i=>(⟨[(2,.ptr 0 0),(15,.sl 1 (ls.map AV.str)),(16,.int .i64 ls.length),(17,.int .i64 i)],[]⟩,[.blk [.int .i64 t.kind,.int .i64 t.pos,.int .i64 t.num,.str t.text]])) (fun i=>ls.length - i) ?_ fun i hi=>?_
  ·refine qb1 0 [0] ⟨Nat.zero_le _,rfl⟩ rfl (by simp) ?_ ?_ ?_<;>(try refine ev_ ?_)<;>(try with_reducible exact ti_)<;>(try simp (disch:=omega) only [qbb,and_true,true_and])
   exact ⟨h2,h15,h16,h17⟩
  ·obtain ⟨hi,ha⟩:=hi
   repeat' (first | refine vs_ ?_ | ((first | refine vr_ ?_ | simp (disch:=omega) only [qwh] | (refine cs_ ?_ ?_<;>intro hc) | refine cj_ ?_ | simp (disch:=omega) only [qk,qbb])<;>(try refine ev_ ?_)) | with_reducible exact ti_)
   ·rw [ha,qqm (i:=i) (by omega),List.contains_cons,hc];simp
   ·refine qb1 (i + 1) [0] ⟨⟨by omega,?_⟩,by omega⟩ rfl (by simp) ?_ ?_ ?_<;>(try refine ev_ ?_)<;>(try with_reducible exact ti_)<;>(try simp (disch:=omega) only [qbb,and_true,true_and])
    rw [ha,qqm (i:=i) (by omega),List.contains_cons,beq_eq_false_iff_ne.2 hc,Bool.false_or]
   ·rw [ha,List.drop_of_length_le (by omega)];rfl
 repeat' (first | refine vs_ ?_ | ((first | refine vr_ ?_ | (refine cs_ ?_ ?_<;>intro hc) | refine cj_ ?_ | simp (disch:=omega) only [qk,qbb])<;>(try refine ev_ ?_)) | with_reducible exact ti_)
 ·rw [show qck t ls = false by simp [qck, *]]
 ·exact loop _ _ _ (by simp [qck, *]) rfl ⟨rfl,rfl,rfl,rfl⟩ rfl
 ·exact loop _ _ _ (by simp [qck, *]) rfl ⟨rfl,rfl,rfl,rfl⟩ rfl
theorem qbcf (t:T) (x:List UInt8):qck t [x] = qfm t x:=by
 unfold qck qfm
 congr 1
 by_cases h:t.text = x
 ·simp [h]
 ·simp [h]
theorem qyn (t:T) (x:List UInt8):qc9 Try.prog 52 [encT t,.sl 1 [.str x]] (.bool (qfm t x)):=by
 rw [← qbcf];exact q75 t [x]
theorem qbcu (c:K) (hk:c.ok):qb2 Try.prog 34 (curE c) (curE (qg c)) [.ptr 0 0] (encT (qi c)):=by
 refine ql c0bf 1 (by simp) (by simp) ?_
 have h1:=hk.1
 have h2:=hk.2
 repeat' (first | refine vs_ ?_ | ((first | refine vr_ ?_ | refine qgy ?_ | refine qbbj ?_ | refine qbv ?_ | simp (disch:=omega) only [qbb] | (refine cs_ ?_ ?_<;>intro hc) | refine cj_ ?_ | simp (disch:=omega) only [qk,qbb])<;>(try refine ev_ ?_)) | with_reducible exact ti_)
 ·rw [q1w (qg8 (by assumption)) (by assumption)]
 ·rw [q4u (qg8 (by assumption)) (by assumption)]
 ·rw [q62 (qhf (by assumption))]
section
variable {c:K} {L:List Ent} {Q:List Ent->VO->Prop} {rs:List AV} {Kk:Md->AV->List Ent->Prop} {x:List UInt8} {e:Int}
theorem qi2 (hk:c.ok) (h:Q (curE (qg c) :: L) (.val (encT (qi c)))):VApp Try.prog (curE c :: L) (.fn 34 [] []) [.ptr 0 0] Q:=qby (qbcu c hk) (qu _ _) (qu _ _) rfl rfl fun _=>h
theorem qb1z (c:K) (x:List UInt8):qb2 Try.prog 33 (curE c) (curE c) [.ptr 0 0,.str x] (.bool (isK c x)):=by
 refine ql c0bg 1 (by simp) (by simp) ?_
 repeat' (first | refine vs_ ?_ | ((first | refine vr_ ?_ | refine qgy ?_ | refine qbv ?_ | refine qf (qyn _ _) fun _=>?_ | (refine cs_ ?_ ?_<;>intro hc) | refine cj_ ?_ | fail)<;>(try refine ev_ ?_)) | with_reducible exact ti_)
 ·rw [isK,decide_eq_true (qg8 (by assumption))];rfl
 ·rw [isK,decide_eq_false (qhf (by assumption))];rfl
theorem a_Is (h:Q (curE c :: L) (.val (.bool (isK c x)))):VApp Try.prog (curE c :: L) (.fn 33 [] []) [.ptr 0 0,.str x] Q:=qby (qb1z c x) (qu _ _) (qu _ _) rfl rfl fun _=>h
theorem qz6 (c:K) (e:Int):qb2 Try.prog 43 (curE c) (curE (qdy c e)) [.ptr 0 0,.int .i64 e] (.bool false):=by
 refine ql c0bh 1 (by simp) (by simp) ?_
 repeat' (first | refine vs_ ?_ | ((first | refine vr_ ?_ | refine qgy ?_ | refine qbv ?_ | (refine cs_ ?_ ?_<;>intro hc) | refine cj_ ?_ | fail)<;>(try refine ev_ ?_)) | with_reducible exact ti_)
 ·subst hc;rw [qbj0 (qg8 (by assumption))]
 ·rw [qbk5 (qg8 (by assumption)) (by assumption)]
 ·rw [qeq (qhf (by assumption))]
theorem qq5 (h:Q (curE (qdy c e) :: L) (.val (.bool false))):VApp Try.prog (curE c :: L) (.fn 43 [] []) [.ptr 0 0,.int .i64 e] Q:=qby (qz6 c e) (qu _ _) (qu _ _) rfl rfl fun _=>h
theorem qfh {rs:List AV} {Kk:Md->AV->List Ent->Prop} (h:Kk (.meth 0 (curE c) (curE (qdy c e))) (.bool false) (curE (qdy c e) :: L)):DApp Try.prog (curE c :: L) (.fn 43 [] []) [.ptr 0 0,.int .i64 e] rs Kk:=qb1c (qz6 c e) (qu _ _) (qu _ _) rfl rfl (by simp [curE]) h
theorem qbau (c:K) (hk:c.ok) (x:List UInt8):qb2 Try.prog 26 (curE c) (curE (qd c x).1) [.ptr 0 0,.str x] (.bool (qd c x).2):=by
 refine ql c0bi 1 (by simp) (by simp) ?_
 repeat' (first | refine vs_ ?_ | ((first | refine vr_ ?_ | refine a_Is ?_ | refine qi2 hk ?_ | (refine cs_ ?_ ?_<;>intro hc) | refine cj_ ?_ | fail)<;>(try refine ev_ ?_)) | with_reducible exact ti_)
 ·rw [qe3 (by assumption)];exact ⟨rfl,rfl⟩
 ·rw [qgj (by assumption)];exact ⟨rfl,rfl⟩
theorem qdt (hk:c.ok) (h:Q (curE (qd c x).1 :: L) (.val (.bool (qd c x).2))):VApp Try.prog (curE c :: L) (.fn 26 [] []) [.ptr 0 0,.str x] Q:=qby (qbau c hk x) (qu _ _) (qu _ _) rfl rfl fun _=>h
theorem qbdg (c:K) (hk:c.ok) (x:List UInt8):qb2 Try.prog 39 (curE c) (curE (qc c x).1) [.ptr 0 0,.str x] (.bool (qc c x).2):=by
 refine ql c0bj 1 (by simp) (by simp) ?_
 repeat' (first | refine vs_ ?_ | ((first | refine vr_ ?_ | refine qdt hk ?_ | refine qq5 ?_ | (refine cs_ ?_ ?_<;>intro hc) | refine cj_ ?_ | fail)<;>(try refine ev_ ?_)) | with_reducible exact ti_)
 ·rw [qbs0 (by assumption)];exact ⟨rfl,rfl⟩
 ·rw [qbkh (by assumption)];exact ⟨rfl,rfl⟩
theorem qb5 (hk:c.ok) (h:Q (curE (qc c x).1 :: L) (.val (.bool (qc c x).2))):VApp Try.prog (curE c :: L) (.fn 39 [] []) [.ptr 0 0,.str x] Q:=qby (qbdg c hk x) (qu _ _) (qu _ _) rfl rfl fun _=>h
theorem q9l (c:K):qb2 Try.prog 53 (curE c) (curE (qa c).1) [.ptr 0 0] (.bool (qa c).2):=by
 refine ql c0bk 1 (by simp) (by simp) ?_
 repeat' (first | refine vs_ ?_ | ((first | refine vr_ ?_ | refine qgy ?_ | refine qq5 ?_ | (refine cs_ ?_ ?_<;>intro hc) | refine cj_ ?_ | simp (disch:=omega) only [qk,qbb])<;>(try refine ev_ ?_)) | with_reducible exact ti_)
 ·rw [qjq (qhf (by assumption)),qeq (qhf (by assumption))];exact ⟨rfl,rfl⟩
 ·rw [qyr (qg8 (by assumption)) (by assumption)];exact ⟨rfl,rfl⟩
 ·rw [q8p (qg8 (by assumption)) (by assumption),qjn (by omega) (by unfold maxLen;omega)];exact ⟨rfl,rfl⟩
theorem qha (h:Q (curE (qa c).1 :: L) (.val (.bool (qa c).2))):VApp Try.prog (curE c :: L) (.fn 53 [] []) [.ptr 0 0] Q:=qby (q9l c) (qu _ _) (qu _ _) rfl rfl fun _=>h
theorem q47 (c:K) (hn:c.nest≤200):qb2 Try.prog 55 (curE c) (curE (qb4 c)) [.ptr 0 0] (.tup []):=by
 refine ql c0bl 1 (by simp) (by simp) ?_
 repeat' (first | refine vs_ ?_ | ((first | refine vr_ ?_ | refine qgy ?_ | (refine cs_ ?_ ?_<;>intro hc) | refine cj_ ?_ | fail)<;>(try refine ev_ ?_)) | with_reducible exact ti_)
 ·rw [q5y (qg8 (by assumption)) (by assumption),qjn (by omega) (by unfold maxLen;omega)]
  simp only [List.cons.injEq,Ent.blk.injEq,AV.int.injEq,true_and,and_true];omega
 ·rw [qbcz (qg8 (by assumption)) (by assumption)]
 ·rw [q3k (qhf (by assumption))]
theorem qe6 (hn:c.nest≤200) (h:Q (curE (qb4 c) :: L) (.val (.tup []))):VApp Try.prog (curE c :: L) (.fn 55 [] []) [.ptr 0 0] Q:=qby (q47 c hn) (qu _ _) (qu _ _) rfl rfl fun _=>h
theorem q1q (c:K) (hk:c.ok):qb2 Try.prog 23 (curE c) (curE c) [.ptr 0 0] (.tup [.int .i64 (qhg c).1,.int .i64 (qhg c).2]):=by
 refine ql c0bm 1 (by simp) (by simp) ?_
 repeat' (first | refine vs_ ?_ | ((first | refine vr_ ?_ | simp (disch:=omega) only [qf8] | (refine cs_ ?_ ?_<;>intro hc) | refine cj_ ?_ | simp (disch:=omega) only [qk,qbb])<;>(try refine ev_ ?_)) | with_reducible exact ti_)
 ·rw [qpu (by assumption)]
 ·rw [q0z (by assumption) (by assumption)]
 ·rw [qvx (by assumption) (by assumption)]
theorem qbxb (hk:c.ok) (h:Q (curE c :: L) (.val (.tup [.int .i64 (qhg c).1,.int .i64 (qhg c).2]))):VApp Try.prog (curE c :: L) (.fn 23 [] []) [.ptr 0 0] Q:=qby (q1q c hk) (qu _ _) (qu _ _) rfl rfl fun _=>h
end
set_option maxRecDepth 4000

def refC (c:K):AV:=.agg [.sl 4 (qdq (c.l.drop c.at')),.int .i64 0,.int .i64 c.ep,.int .i64 0,.str [],.int .i64 c.nest,.int .i64 c.err,.int .i64 c.pos]
attribute [go_sem] refC
def qey:List T->List T
 | []=>[]
 | t :: r=>if t.kind = 0 then [] else t :: qey r
def endT:List T->Int
 | []=>0
 | t :: r=>if t.kind = 0 then t.pos else endT r
def newK (l:List T):K:=⟨qey l,endT l,0,0,0,0⟩
theorem qju:∀ l:List T,(qey l).length≤l.length
 | []=>Nat.le_refl _
 | t :: r => by
   rw [qey]
   split
   ·exact Nat.zero_le _
   ·have:=qju r;simp only [List.length_cons];omega
theorem q9j {l:List T} {i:Nat} (h1:∀ t∈l.take i,t.kind≠0) (h:i < l.length) (h2:(l.getD i T0).kind = 0):qey l = l.take i∧endT l = (l.getD i T0).pos:=by
 induction l generalizing i with
 | nil=>simp at h
 | cons t r ih =>
   cases i with
   | zero=>simp only [List.getD_cons_zero] at h2 ⊢;rw [qey,endT,if_pos h2,if_pos h2];exact ⟨rfl,rfl⟩
   | succ i =>
     have ht:=h1 t (by simp)
     obtain ⟨g1,g2⟩:=ih (fun u hu=>h1 u (List.mem_cons_of_mem t hu)) (by simpa using h) (by simpa using h2)
     rw [qey,endT,if_neg ht,if_neg ht,g1,g2]
     exact ⟨rfl,rfl⟩
theorem q4o {l:List T} (h1:∀ t∈l,t.kind≠0):qey l = l∧endT l = 0:=by
 induction l with
 | nil=>exact ⟨rfl,rfl⟩
 | cons t r ih =>
   obtain ⟨g1,g2⟩:=ih fun u hu=>h1 u (by simp [hu])
   rw [qey,endT,if_neg (h1 t (by simp)),if_neg (h1 t (by simp)),g1,g2]
   exact ⟨rfl,rfl⟩
theorem qlq {a:List T} {i:Nat} (h:i < a.length) {p:T->Prop} (h1:∀ t∈a.take i,p t) (h2:p (a.getD i T0)):∀ t∈a.take (i + 1),p t:=by
 intro t ht
 rw [List.take_add_one,List.getElem?_eq_getElem h] at ht
 rcases List.mem_append.1 ht with ht | ht
 ·exact h1 t ht
 ·simp only [Option.toList_some,List.mem_singleton] at ht
  subst ht
  rwa [List.getD_eq_getElem?_getD,List.getElem?_eq_getElem h] at h2
theorem qbwz (x:Ent) (es:List AV):co (x :: accE 4 es) (.sl 4) (accV 1 es) = .sl 4 es:=by
 cases es with
 | nil=>rw [qbf,qrb]
 | cons e es =>
   rw [qbk (by simp),qvl,qbl (by simp)]
   simp only [ent,q7y,if_true]
def q6w (l:List T) (i:Nat):AF×List Ent :=
 (⟨[(3, .ptr 0 0), (8, .sl 4 (qdq l)), (9, .int .i64 l.length), (10, .int .i64 i)], []⟩,
   .blk [accV 1 (qdq (l.take i)),.int .i64 0,.int .i64 0,.int .i64 0,.str [],.int .i64 0,.int .i64 0,.int .i64 0,.int .i64 0] :: accE 4 (qdq (l.take i)))
theorem qwr {l:List T} (h:l≠[]):qdq l≠[]:=by cases l with | nil=>exact absurd rfl h | cons _ _=>simp [qdq]
theorem q26 {l:List T} {i:Nat} (h:i < l.length):l.take (i + 1) = l.take i ++ [l.getD i T0]:=by
 rw [List.take_add_one,List.getElem?_eq_getElem h,List.getD_eq_getElem?_getD,List.getElem?_eq_getElem h];rfl
theorem capT {n:Nat} (h:n≤1048580):qeb n 40:=by unfold qeb;omega
theorem qbb6 (l:List T) (hl:l.length≤1048577):VCalls Try.prog 22 [] [.sl 4 (qdq l)] fun H' o=>H' = [curE (newK l)]∧o = .val (.ptr 0 0):=by
 refine ql c0bb 1 (by simp) (by simp) ?_
 have hmx:(1048577:Nat)≤maxLen:=by unfold maxLen;omega
 repeat' (first | refine vs_ ?_ | ((first | refine vr_ ?_ | (refine cs_ ?_ ?_<;>intro hc) | refine cj_ ?_ | simp (disch:=omega) only [qk,qbb])<;>(try refine ev_ ?_)) | with_reducible exact ti_)
 refine qct (S:=Nat) (fun i=>i≤l.length∧∀ t∈l.take i,t.kind≠0) (q6w l) (fun i=>l.length - i) ?_ fun i hi=>?_
 ·refine qb1 0 [0] ⟨Nat.zero_le _,by simp⟩ rfl (by simp) ?_ ?_ ?_<;>simp only [q6w,List.take_zero,qu6,qbf,qbi]<;>(try refine ev_ ?_)<;>(try with_reducible exact ti_)<;>(try simp (disch:=omega) only [qbb,and_true,true_and])
 ·obtain ⟨hi,ha⟩:=hi
  unfold q6w
  by_cases hx:i < l.length∧(l.getD i T0).kind≠0
  ·have hT:AV.agg [.int .i64 (l.getD i T0).kind,.int .i64 (l.getD i T0).pos,.int .i64 (l.getD i T0).num,.str (l.getD i T0).text] = encT (l.getD i T0):=rfl
   have hts:=q26 hx.1
   have hne:qdq (l.take (i + 1))≠[]:=qwr (by rw [hts];simp)
   have hlen:(l.take (i + 1)).length = i + 1:=by rw [List.length_take];omega
   by_cases h0:i = 0
   ·subst h0
    simp only [List.take_zero,qu6,qbf,qbi]
    repeat' (first | refine vs_ ?_ | ((first | refine vr_ ?_ | simp (disch:=omega) only [qf8] | (refine cs_ ?_ ?_<;>intro hc) | refine cj_ ?_ | simp (disch:=omega) only [qk,qbb])<;>(try refine ev_ ?_)) | with_reducible exact ti_)
    ·exact absurd (by assumption) hx.2
    ·refine qb1 1 [0,2] ⟨⟨by omega,qlq (by omega) ha hx.2⟩,by omega⟩ rfl (by simp) ?_ ?_ ?_
     all_goals simp only [q6w,qbk hne,qbl hne,qln,hlen]
     all_goals (try simp only [Nat.zero_add] at hts)
     all_goals simp only [hts,List.take_zero,List.nil_append]
     all_goals (refine ev_ ?_;(try with_reducible exact ti_))
     all_goals first | exact ⟨rfl,rfl⟩ | exact congrArg _ (by decide) | rfl | trace_state
    ·omega
   ·have hne0:qdq (l.take i)≠[]:=qwr (by intro e;have:=congrArg List.length e;simp only [List.length_take,List.length_nil] at this;omega)
    have hli:(l.take i).length = i:=by rw [List.length_take];omega
    simp only [qbk hne0,qbl hne0,qln]
    have hat:∀ ac:List T,ac = l.take i->qdq ac ++ [encT (l.getD i T0)] = qdq (l.take (i + 1)):=fun ac e=>by rw [e,qo8,hts]
    generalize hac:l.take i = ac at *
    have hcap:qeb (ac.length + 1) 40:=capT (by omega)
    have hil:(i:Int) < l.length:=by omega
    have hkd:=hx.2
    repeat' (first | refine vs_ ?_ | ((first | refine vr_ ?_ | fail)<;>(try simp (disch:=first | omega | (simp only [List.length_set,List.length_append,List.length_cons,List.length_nil];done) | (simp only [List.length_set,List.length_append,List.length_cons,List.length_nil];omega)) only [hil,hkd,qf8,ne_eq,go_sem,↓reduceIte])) | ((first | (refine cs_ ?_ ?_<;>intro hc) | refine cj_ ?_ | simp (disch:=omega) only [qk,qbb])<;>(try refine ev_ ?_)) | with_reducible exact ti_)
    ·refine qb1 (i + 1) [0,3] ⟨⟨by omega,qlq (by omega) (by rw [hac];exact ha) hx.2⟩,by omega⟩ rfl (by simp) ?_ ?_ ?_
     all_goals simp only [q6w,qbk hne,qbl hne,qln,hlen]
     all_goals rw [← hat ac rfl]
     all_goals (skip<;>(try refine ev_ ?_)<;>(try with_reducible exact ti_)<;>(try simp (disch:=omega) only [qbb,and_true,true_and]))
     rw [hli,qo8 ac,qon]
     exact ⟨rfl,qlr _ _,rfl⟩
  ·refine q79 0 0 (.sl 4) rfl ?_
   simp only [List.set_cons_zero,List.getD_cons_zero,qbwz]
   repeat' (first | refine vs_ ?_ | ((first | refine vr_ ?_ | simp (disch:=omega) only [qf8] | (refine cs_ ?_ ?_<;>intro hc) | refine cj_ ?_ | simp (disch:=omega) only [qk,qbb])<;>(try refine ev_ ?_)) | with_reducible exact ti_)
   ·obtain ⟨g1,g2⟩:=q9j ha (by omega) (by assumption)
    rw [newK,g1,g2];rfl
   ·exact hx ⟨by omega,by assumption⟩
   ·rw [List.take_of_length_le (by omega)] at ha ⊢
    obtain ⟨g1,g2⟩:=q4o ha
    rw [newK,g1,g2];rfl
end Go.Proofs.Ytfjbmjplnmaclaa
