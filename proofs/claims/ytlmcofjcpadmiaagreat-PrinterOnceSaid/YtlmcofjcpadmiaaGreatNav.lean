/- Texts of this proof, joined. -/
import Derived.Test.YtlmcofjcpadmiaaGreatNat
import Derived.Test.YtlmcofjcpadmiaaGreatNau
set_option linter.unusedVariables false
set_option linter.unusedSimpArgs false

/- the cursor: what it is, what its methods do -/
set_option maxRecDepth 4000
namespace Go.Proofs.YtlmcofjcpadmiaaGreat
open Go Go.RowKit Go.V

attribute [go_sem] cond_true cond_false
structure K where
 l:List T
 ep:Int
 at':Nat
 nest:Nat
 err:Int
 pos:Int
def K.ok (c:K):Prop:=c.at'≤c.l.length∧c.l.length≤maxLen
def curE (c:K):Ent:=.blk [.sl 4 (qec c.l),.int .i64 0,.int .i64 c.ep,.int .i64 0,.str [],.int .i64 c.at',.int .i64 c.nest,.int .i64 c.err,.int .i64 c.pos]
def K.bad (c:K):Bool:=!decide (c.err = 0)
theorem qic {c:K} (h:c.bad = false):c.err = 0:=by simpa [K.bad] using h
theorem qip {c:K} (h:c.bad = true):¬ c.err = 0:=by simpa [K.bad] using h
def qp (c:K):T:=if c.err = 0 then if c.at' < c.l.length then c.l.getD c.at' T0 else ⟨0,c.ep,0,[]⟩ else T0
def qg (c:K):K:=if c.err = 0 then if c.at' < c.l.length then { c with at':=c.at' + 1 } else c else c
def qcg (t:T) (s:List UInt8):Bool:=(decide (t.kind = 4) || decide (t.kind = 5)) && decide (t.text = s)
def isK (c:K) (s:List UInt8):Bool:=decide (c.err = 0) && qcg (qp c) s
def qd9 (c:K) (e:Int):K:=if c.err = 0 then { c with err:=if e = 0 then 1 else e,pos:=(qp c).pos } else c
def qf (c:K) (s:List UInt8):K×Bool:=if isK c s = true then (qg c,true) else (c,false)
def qh (c:K) (s:List UInt8):K×Bool:=if isK c s = true then (qg c,true) else (qd9 c 5,false)
def qb (c:K):K×Bool:=if c.err = 0 then if c.nest < 200 then ({ c with nest:=c.nest + 1 },true) else (qd9 c 2,false) else (c,false)
def qcn (c:K):K:=if c.err = 0 then if 0 < c.nest then { c with nest:=c.nest - 1 } else c else c
def ql9 (c:K):Int×Int:=if c.err = 0 then if c.at' < c.l.length then ((c.l.getD c.at' T0).pos,5) else (c.ep,0) else (c.pos,c.err)

theorem q9 (k:Nat) (c:K):(curE c).bd k = true:=by
 simp only [curE,Ent.bd,AV.bds,AV.bd,qm3,Bool.and_true]
theorem qc4 (σ:Nat->Nat) (c:K):(curE c).ren σ = curE c:=Ent.ren_same (m:=0) (fun i hi=>by omega) _ (q9 0 c)
attribute [go_sem] curE
def qb7 (P:Program) (f:FuncId) (e e':Ent) (args:List AV) (r:AV):Prop:=VCalls P f [e] args fun H' o=>H' = [e']∧o = .val r
section
variable {P:Program} {f:FuncId} {e e':Ent} {L:List Ent} {args:List AV} {r:AV} {Q:List Ent->VO->Prop}
theorem qb4 (h:qb7 P f e e' args r) (hb:e.bd 1 = true) (hb':e'.bd 1 = true) (ha:AV.bds 1 args = true) (hr:r.bd 1 = true) (hq:r.wf->Q (e' :: L) (.val r)):VApp P (e :: L) (.fn f [] []) args Q :=
 qb3 (first:=[]) (caps:=[]) (by
  simp only [List.nil_append,List.append_nil]
  refine qde (H0:=[e]) (L:=L) (h.mono' (Q':=fun H' o=>(H' = [e']∧o = .val r)∧r.wf) fun H' o hw ho=>⟨ho,by have:=ho.2;subst this;exact hw⟩) (by simp [hb]) ha ?_
  rintro H1 o ⟨⟨rfl,rfl⟩,hw⟩
  exact ⟨rfl,by simp [hb'],hr,hq hw⟩)
theorem qbe9 (h:qb7 P f e e args r) (hb:e.bd 1 = true) (ha:AV.bds 1 args = true) (hr:r.bd 1 = true) {rs:List AV} {Kk:Md->AV->List Ent->Prop} (hq:r.wf->Kk .here r (e :: L)) (hw:r.wf):DApp P (e :: L) (.fn f [] []) args rs Kk :=
 .inl ⟨r,qb4 h hb hb ha hr fun _=>⟨rfl,rfl⟩,hq hw⟩
theorem qcdm (h:qb7 P f e e' args r) (hb:e.bd 1 = true) (hb':e'.bd 1 = true) (ha:AV.bds 1 args = true) (hr:r.bd 1 = true) (hn:e≠.dead) {rs:List AV} {Kk:Md->AV->List Ent->Prop} (hq:Kk (.meth 0 e e') r (e' :: L)):DApp P (e :: L) (.fn f [] []) args rs Kk :=
 .inr (.inr (.inl ⟨r,0,e,e',⟨hn,rfl,fun H₀ h0=>by
  cases H₀ with
  | nil=>exact absurd h0.symm hn
  | cons x L' =>
    cases (show x = e from h0)
    exact qb4 h hb hb' ha hr fun _=>⟨rfl,rfl⟩⟩,hq⟩))
end

theorem qvr (c:K):qb7 Tryz.prog 109 (curE c) (curE c) [.ptr 0 0] (.bool c.bad):=by
 refine qq c0ee 1 (by simp) (by simp) ?_
 unfold K.bad
 repeat' (first | refine vs_ ?_ | ((first | refine vr_ ?_ | (refine cs_ ?_ ?_<;>intro hc) | refine cj_ ?_ | fail)<;>(try refine ev_ ?_)) | with_reducible exact ti_)
section
variable {c:K} {L:List Ent} {Q:List Ent->VO->Prop} {rs:List AV} {Kk:Md->AV->List Ent->Prop}
theorem qh9 (h:Q (curE c :: L) (.val (.bool c.bad))):VApp Tryz.prog (curE c :: L) (.fn 109 [] []) [.ptr 0 0] Q:=qb4 (qvr c) (q9 _ _) (q9 _ _) rfl rfl fun _=>h
theorem qbh2 (h:Kk .here (.bool c.bad) (curE c :: L)):DApp Tryz.prog (curE c :: L) (.fn 109 [] []) [.ptr 0 0] rs Kk:=qbe9 (qvr c) (q9 _ _) rfl rfl (fun _=>h) trivial
end
section
variable {c:K}
theorem qhm (h:¬ c.err = 0):qp c = T0:=if_neg h
theorem qm5 (h:c.err = 0) (h2:(c.at':Int) < c.l.length):qp c = c.l.getD c.at' T0:=by rw [qp,if_pos h,if_pos (by omega)]
theorem qt4 (h:c.err = 0) (h2:¬ (c.at':Int) < c.l.length):qp c = ⟨0,c.ep,0,[]⟩:=by rw [qp,if_pos h,if_neg (by omega)]
theorem qbgo (h:¬ c.err = 0):qg c = c:=if_neg h
theorem qxr (h:c.err = 0) (h2:(c.at':Int) < c.l.length):qg c = { c with at':=c.at' + 1 }:=by rw [qg,if_pos h,if_pos (by omega)]
theorem qbf3 (h:c.err = 0) (h2:¬ (c.at':Int) < c.l.length):qg c = c:=by rw [qg,if_pos h,if_neg (by omega)]
theorem qfj {e:Int} (h:¬ c.err = 0):qd9 c e = c:=if_neg h
theorem qca7 (h:c.err = 0):qd9 c 0 = { c with err:=1,pos:=(qp c).pos }:=by rw [qd9,if_pos h,if_pos rfl]
theorem qcck {e:Int} (h:c.err = 0) (he:¬ e = 0):qd9 c e = { c with err:=e,pos:=(qp c).pos }:=by rw [qd9,if_pos h,if_neg he]
end
section
variable {c:K} {x:List UInt8}
theorem qbab (h:isK c x = true):qf c x = (qg c,true):=if_pos h
theorem qkq (h:isK c x = false):qf c x = (c,false):=by rw [qf,h];rfl
theorem qb4t (h:(qf c x).2 = true):qh c x = ((qf c x).1,true):=by
 unfold qf qh at *
 split at h
 ·rename_i h1;rw [if_pos h1,if_pos h1]
 ·cases h
theorem qb6m (h:(qf c x).2 = false):qh c x = (qd9 (qf c x).1 5,false):=by
 unfold qf qh at *
 split at h
 ·cases h
 ·rename_i h1;rw [if_neg h1,if_neg h1]
theorem ql2 (h:¬ c.err = 0):qb c = (c,false):=if_neg h
theorem qzc (h:c.err = 0) (h2:¬ (200:Int)≤c.nest):qb c = ({ c with nest:=c.nest + 1 },true):=by rw [qb,if_pos h,if_pos (by omega)]
theorem q2t (h:c.err = 0) (h2:(200:Int)≤c.nest):qb c = (qd9 c 2,false):=by rw [qb,if_pos h,if_neg (by omega)]
theorem q9a (h:¬ c.err = 0):qcn c = c:=if_neg h
theorem q0f (h:c.err = 0) (h2:(0:Int) < c.nest):qcn c = { c with nest:=c.nest - 1 }:=by rw [qcn,if_pos h,if_pos (by omega)]
theorem qblr (h:c.err = 0) (h2:¬ (0:Int) < c.nest):qcn c = c:=by rw [qcn,if_pos h,if_neg (by omega)]
theorem qt6 (h:¬ c.err = 0):ql9 c = (c.pos,c.err):=if_neg h
theorem qxh (h:c.err = 0) (h2:(c.at':Int) < c.l.length):ql9 c = ((c.l.getD c.at' T0).pos,5):=by rw [ql9,if_pos h,if_pos (by omega)]
theorem qta (h:c.err = 0) (h2:¬ (c.at':Int) < c.l.length):ql9 c = (c.ep,0):=by rw [ql9,if_pos h,if_neg (by omega)]
end
theorem qbmc (c:K):qb7 Tryz.prog 66 (curE c) (curE c) [.ptr 0 0] (encT (qp c)):=by
 refine qq c0ef 1 (by simp) (by simp) ?_
 repeat' (first | refine vs_ ?_ | ((first | refine vr_ ?_ | refine qh9 ?_ | simp (disch:=omega) only [qhe] | (refine cs_ ?_ ?_<;>intro hc) | refine cj_ ?_ | simp (disch:=omega) only [qc,qs])<;>(try refine ev_ ?_)) | with_reducible exact ti_)
 ·rw [qhm (qip (by assumption))];rfl
 ·rw [qm5 (qic (by assumption)) (by assumption)]
 ·rw [qt4 (qic (by assumption)) (by assumption)];rfl
section
variable {c:K} {L:List Ent} {Q:List Ent->VO->Prop} {rs:List AV} {Kk:Md->AV->List Ent->Prop}
theorem qb2 (h:Q (curE c :: L) (.val (encT (qp c)))):VApp Tryz.prog (curE c :: L) (.fn 66 [] []) [.ptr 0 0] Q:=qb4 (qbmc c) (q9 _ _) (q9 _ _) rfl rfl fun _=>h
end
def qcl (t:T) (ls:List (List UInt8)):Bool:=(decide (t.kind = 4) || decide (t.kind = 5)) && ls.contains t.text
theorem qbci (t:T) (ls:List (List UInt8)):qx Tryz.prog 193 [encT t,.sl 1 (ls.map AV.str)] (.bool (qcl t ls)):=by
 refine qn c0eg (by simp) (by simp only [go_sem]) rfl fun hw=>?_
 have h1:ls.length≤maxLen:=by have:=hw.2.1.1;rwa [q4v] at this
 have loop:∀ (Q:VE->AF->List Ent->Prop) (tm:List (Nat×AV)) (H:List Ent),qcl t ls = ls.contains t.text->H = [.blk [.int .i64 t.kind,.int .i64 t.pos,.int .i64 t.num,.str t.text]] →
  (get tm 2 = .ptr 0 0∧get tm 15 = .sl 1 (ls.map AV.str)∧get tm 16 = .int .i64 ls.length∧get tm 17 = .int .i64 0) →
  Q = blq 0 (sq Tryz.prog none 26 0 (k0eg_r11.seq IC.ret) (retq 0 [(RV.t 4,Co.id)] fun H' o=>o = VO.val (AV.bool (qcl t ls)))) →
  VI Tryz.prog none 26 0 k0eg_l4.loop Q ⟨tm,[]⟩ H:=by
  rintro Q tm H hwd rfl ⟨h2,h15,h16,h17⟩ rfl
  rw [hwd]
  refine qcm (S:=Nat) (fun i=>i≤ls.length∧ls.contains t.text = (ls.drop i).contains t.text) (fun i=>(⟨[(2,.ptr 0 0),(15,.sl 1 (ls.map AV.str)),(16,.int .i64 ls.length),(17,.int .i64 i)],[]⟩,[.blk [.int .i64 t.kind,.int .i64 t.pos,.int .i64 t.num,.str t.text]])) (fun i=>ls.length - i) ?_ fun i hi=>?_
  ·refine qb1 0 [0] ⟨Nat.zero_le _,rfl⟩ rfl (by simp) ?_ ?_ ?_<;>(try refine ev_ ?_)<;>(try with_reducible exact ti_)<;>(try simp (disch:=omega) only [qs,and_true,true_and])
   exact ⟨h2,h15,h16,h17⟩
  ·obtain ⟨hi,ha⟩:=hi
   repeat' (first | refine vs_ ?_ | ((first | refine vr_ ?_ | simp (disch:=omega) only [q1r] | (refine cs_ ?_ ?_<;>intro hc) | refine cj_ ?_ | simp (disch:=omega) only [qc,qs])<;>(try refine ev_ ?_)) | with_reducible exact ti_)
   ·rw [ha,qrq (i:=i) (by omega),List.contains_cons,hc];simp
   ·refine qb1 (i + 1) [0] ⟨⟨by omega,?_⟩,by omega⟩ rfl (by simp) ?_ ?_ ?_<;>(try refine ev_ ?_)<;>(try with_reducible exact ti_)<;>(try simp (disch:=omega) only [qs,and_true,true_and])
    rw [ha,qrq (i:=i) (by omega),List.contains_cons,beq_eq_false_iff_ne.2 hc,Bool.false_or]
   ·rw [ha,List.drop_of_length_le (by omega)];rfl
 repeat' (first | refine vs_ ?_ | ((first | refine vr_ ?_ | (refine cs_ ?_ ?_<;>intro hc) | refine cj_ ?_ | simp (disch:=omega) only [qc,qs])<;>(try refine ev_ ?_)) | with_reducible exact ti_)
 ·rw [show qcl t ls = false by simp [qcl, *]]
 ·exact loop _ _ _ (by simp [qcl, *]) rfl ⟨rfl,rfl,rfl,rfl⟩ rfl
 ·exact loop _ _ _ (by simp [qcl, *]) rfl ⟨rfl,rfl,rfl,rfl⟩ rfl
theorem qbg7 (t:T) (x:List UInt8):qcl t [x] = qcg t x:=by
 unfold qcl qcg
 congr 1
 by_cases h:t.text = x
 ·simp [h]
 ·simp [h]
theorem q2b (t:T) (x:List UInt8):qx Tryz.prog 193 [encT t,.sl 1 [.str x]] (.bool (qcg t x)):=by
 rw [← qbg7];exact qbci t [x]
theorem qbhr (c:K) (hk:c.ok):qb7 Tryz.prog 154 (curE c) (curE (qg c)) [.ptr 0 0] (encT (qp c)):=by
 refine qq c0eh 1 (by simp) (by simp) ?_
 have h1:=hk.1
 have h2:=hk.2
 repeat' (first | refine vs_ ?_ | ((first | refine vr_ ?_ | refine qh9 ?_ | refine qbh2 ?_ | refine qb2 ?_ | simp (disch:=omega) only [qs] | (refine cs_ ?_ ?_<;>intro hc) | refine cj_ ?_ | simp (disch:=omega) only [qc,qs])<;>(try refine ev_ ?_)) | with_reducible exact ti_)
 ·rw [qxr (qic (by assumption)) (by assumption)]
 ·rw [qbf3 (qic (by assumption)) (by assumption)]
 ·rw [qbgo (qip (by assumption))]
section
variable {c:K} {L:List Ent} {Q:List Ent->VO->Prop} {rs:List AV} {Kk:Md->AV->List Ent->Prop} {x:List UInt8} {e:Int}
theorem qk5 (hk:c.ok) (h:Q (curE (qg c) :: L) (.val (encT (qp c)))):VApp Tryz.prog (curE c :: L) (.fn 154 [] []) [.ptr 0 0] Q:=qb4 (qbhr c hk) (q9 _ _) (q9 _ _) rfl rfl fun _=>h
theorem qce6 (c:K) (x:List UInt8):qb7 Tryz.prog 155 (curE c) (curE c) [.ptr 0 0,.str x] (.bool (isK c x)):=by
 refine qq c0ei 1 (by simp) (by simp) ?_
 repeat' (first | refine vs_ ?_ | ((first | refine vr_ ?_ | refine qh9 ?_ | refine qb2 ?_ | refine qa (q2b _ _) fun _=>?_ | (refine cs_ ?_ ?_<;>intro hc) | refine cj_ ?_ | fail)<;>(try refine ev_ ?_)) | with_reducible exact ti_)
 ·rw [isK,decide_eq_true (qic (by assumption))];rfl
 ·rw [isK,decide_eq_false (qip (by assumption))];rfl
theorem a_Is (h:Q (curE c :: L) (.val (.bool (isK c x)))):VApp Tryz.prog (curE c :: L) (.fn 155 [] []) [.ptr 0 0,.str x] Q:=qb4 (qce6 c x) (q9 _ _) (q9 _ _) rfl rfl fun _=>h
theorem q60 (c:K) (e:Int):qb7 Tryz.prog 152 (curE c) (curE (qd9 c e)) [.ptr 0 0,.int .i64 e] (.bool false):=by
 refine qq c0ej 1 (by simp) (by simp) ?_
 repeat' (first | refine vs_ ?_ | ((first | refine vr_ ?_ | refine qh9 ?_ | refine qb2 ?_ | (refine cs_ ?_ ?_<;>intro hc) | refine cj_ ?_ | fail)<;>(try refine ev_ ?_)) | with_reducible exact ti_)
 ·subst hc;rw [qca7 (qic (by assumption))]
 ·rw [qcck (qic (by assumption)) (by assumption)]
 ·rw [qfj (qip (by assumption))]
theorem qvm (h:Q (curE (qd9 c e) :: L) (.val (.bool false))):VApp Tryz.prog (curE c :: L) (.fn 152 [] []) [.ptr 0 0,.int .i64 e] Q:=qb4 (q60 c e) (q9 _ _) (q9 _ _) rfl rfl fun _=>h
theorem qgk {rs:List AV} {Kk:Md->AV->List Ent->Prop} (h:Kk (.meth 0 (curE c) (curE (qd9 c e))) (.bool false) (curE (qd9 c e) :: L)):DApp Tryz.prog (curE c :: L) (.fn 152 [] []) [.ptr 0 0,.int .i64 e] rs Kk:=qcdm (q60 c e) (q9 _ _) (q9 _ _) rfl rfl (by simp [curE]) h
theorem qbif (c:K) (hk:c.ok) (x:List UInt8):qb7 Tryz.prog 105 (curE c) (curE (qf c x).1) [.ptr 0 0,.str x] (.bool (qf c x).2):=by
 refine qq c0ek 1 (by simp) (by simp) ?_
 repeat' (first | refine vs_ ?_ | ((first | refine vr_ ?_ | refine a_Is ?_ | refine qk5 hk ?_ | (refine cs_ ?_ ?_<;>intro hc) | refine cj_ ?_ | fail)<;>(try refine ev_ ?_)) | with_reducible exact ti_)
 ·rw [qkq (by assumption)];exact ⟨rfl,rfl⟩
 ·rw [qbab (by assumption)];exact ⟨rfl,rfl⟩
theorem qef (hk:c.ok) (h:Q (curE (qf c x).1 :: L) (.val (.bool (qf c x).2))):VApp Tryz.prog (curE c :: L) (.fn 105 [] []) [.ptr 0 0,.str x] Q:=qb4 (qbif c hk x) (q9 _ _) (q9 _ _) rfl rfl fun _=>h
theorem qbh4 (c:K) (hk:c.ok) (x:List UInt8):qb7 Tryz.prog 156 (curE c) (curE (qh c x).1) [.ptr 0 0,.str x] (.bool (qh c x).2):=by
 refine qq c0el 1 (by simp) (by simp) ?_
 repeat' (first | refine vs_ ?_ | ((first | refine vr_ ?_ | refine qef hk ?_ | refine qvm ?_ | (refine cs_ ?_ ?_<;>intro hc) | refine cj_ ?_ | fail)<;>(try refine ev_ ?_)) | with_reducible exact ti_)
 ·rw [qb4t (by assumption)];exact ⟨rfl,rfl⟩
 ·rw [qb6m (by assumption)];exact ⟨rfl,rfl⟩
theorem qcc (hk:c.ok) (h:Q (curE (qh c x).1 :: L) (.val (.bool (qh c x).2))):VApp Tryz.prog (curE c :: L) (.fn 156 [] []) [.ptr 0 0,.str x] Q:=qb4 (qbh4 c hk x) (q9 _ _) (q9 _ _) rfl rfl fun _=>h
theorem qbgq (c:K):qb7 Tryz.prog 95 (curE c) (curE (qb c).1) [.ptr 0 0] (.bool (qb c).2):=by
 refine qq c0em 1 (by simp) (by simp) ?_
 repeat' (first | refine vs_ ?_ | ((first | refine vr_ ?_ | refine qh9 ?_ | refine qvm ?_ | (refine cs_ ?_ ?_<;>intro hc) | refine cj_ ?_ | simp (disch:=omega) only [qc,qs])<;>(try refine ev_ ?_)) | with_reducible exact ti_)
 ·rw [ql2 (qip (by assumption)),qfj (qip (by assumption))];exact ⟨rfl,rfl⟩
 ·rw [q2t (qic (by assumption)) (by assumption)];exact ⟨rfl,rfl⟩
 ·rw [qzc (qic (by assumption)) (by assumption),qit (by omega) (by unfold maxLen;omega)];exact ⟨rfl,rfl⟩
theorem qiq (h:Q (curE (qb c).1 :: L) (.val (.bool (qb c).2))):VApp Tryz.prog (curE c :: L) (.fn 95 [] []) [.ptr 0 0] Q:=qb4 (qbgq c) (q9 _ _) (q9 _ _) rfl rfl fun _=>h
theorem qbag (c:K) (hn:c.nest≤200):qb7 Tryz.prog 98 (curE c) (curE (qcn c)) [.ptr 0 0] (.tup []):=by
 refine qq c0en 1 (by simp) (by simp) ?_
 repeat' (first | refine vs_ ?_ | ((first | refine vr_ ?_ | refine qh9 ?_ | (refine cs_ ?_ ?_<;>intro hc) | refine cj_ ?_ | fail)<;>(try refine ev_ ?_)) | with_reducible exact ti_)
 ·rw [q0f (qic (by assumption)) (by assumption),qit (by omega) (by unfold maxLen;omega)]
  simp only [List.cons.injEq,Ent.blk.injEq,AV.int.injEq,true_and,and_true];omega
 ·rw [qblr (qic (by assumption)) (by assumption)]
 ·rw [q9a (qip (by assumption))]
theorem qfx (hn:c.nest≤200) (h:Q (curE (qcn c) :: L) (.val (.tup []))):VApp Tryz.prog (curE c :: L) (.fn 98 [] []) [.ptr 0 0] Q:=qb4 (qbag c hn) (q9 _ _) (q9 _ _) rfl rfl fun _=>h
theorem q5e (c:K) (hk:c.ok):qb7 Tryz.prog 55 (curE c) (curE c) [.ptr 0 0] (.tup [.int .i64 (ql9 c).1,.int .i64 (ql9 c).2]):=by
 refine qq c0eo 1 (by simp) (by simp) ?_
 repeat' (first | refine vs_ ?_ | ((first | refine vr_ ?_ | simp (disch:=omega) only [qhe] | (refine cs_ ?_ ?_<;>intro hc) | refine cj_ ?_ | simp (disch:=omega) only [qc,qs])<;>(try refine ev_ ?_)) | with_reducible exact ti_)
 ·rw [qt6 (by assumption)]
 ·rw [qxh (by assumption) (by assumption)]
 ·rw [qta (by assumption) (by assumption)]
theorem qcd7 (hk:c.ok) (h:Q (curE c :: L) (.val (.tup [.int .i64 (ql9 c).1,.int .i64 (ql9 c).2]))):VApp Tryz.prog (curE c :: L) (.fn 55 [] []) [.ptr 0 0] Q:=qb4 (q5e c hk) (q9 _ _) (q9 _ _) rfl rfl fun _=>h
end
set_option maxRecDepth 4000

def refC (c:K):AV:=.agg [.sl 4 (qec (c.l.drop c.at')),.int .i64 0,.int .i64 c.ep,.int .i64 0,.str [],.int .i64 c.nest,.int .i64 c.err,.int .i64 c.pos]
attribute [go_sem] refC
def qem:List T->List T
 | []=>[]
 | t :: r=>if t.kind = 0 then [] else t :: qem r
def endT:List T->Int
 | []=>0
 | t :: r=>if t.kind = 0 then t.pos else endT r
def newK (l:List T):K:=⟨qem l,endT l,0,0,0,0⟩
theorem ql0:∀ l:List T,(qem l).length≤l.length
 | []=>Nat.le_refl _
 | t :: r => by
   rw [qem]
   split
   ·exact Nat.zero_le _
   ·have:=ql0 r;simp only [List.length_cons];omega
theorem qbea {l:List T} {i:Nat} (h1:∀ t∈l.take i,t.kind≠0) (h:i < l.length) (h2:(l.getD i T0).kind = 0):qem l = l.take i∧endT l = (l.getD i T0).pos:=by
 induction l generalizing i with
 | nil=>simp at h
 | cons t r ih =>
   cases i with
   | zero=>simp only [List.getD_cons_zero] at h2 ⊢;rw [qem,endT,if_pos h2,if_pos h2];exact ⟨rfl,rfl⟩
   | succ i =>
     have ht:=h1 t (by simp)
     obtain ⟨g1,g2⟩:=ih (fun u hu=>h1 u (List.mem_cons_of_mem t hu)) (by simpa using h) (by simpa using h2)
     rw [qem,endT,if_neg ht,if_neg ht,g1,g2]
     exact ⟨rfl,rfl⟩
theorem qbbq {l:List T} (h1:∀ t∈l,t.kind≠0):qem l = l∧endT l = 0:=by
 induction l with
 | nil=>exact ⟨rfl,rfl⟩
 | cons t r ih =>
   obtain ⟨g1,g2⟩:=ih fun u hu=>h1 u (by simp [hu])
   rw [qem,endT,if_neg (h1 t (by simp)),if_neg (h1 t (by simp)),g1,g2]
   exact ⟨rfl,rfl⟩
theorem qng {a:List T} {i:Nat} (h:i < a.length) {p:T->Prop} (h1:∀ t∈a.take i,p t) (h2:p (a.getD i T0)):∀ t∈a.take (i + 1),p t:=by
 intro t ht
 rw [List.take_add_one,List.getElem?_eq_getElem h] at ht
 rcases List.mem_append.1 ht with ht | ht
 ·exact h1 t ht
 ·simp only [Option.toList_some,List.mem_singleton] at ht
  subst ht
  rwa [List.getD_eq_getElem?_getD,List.getElem?_eq_getElem h] at h2
theorem qcfy (x:Ent) (es:List AV):co (x :: accE 4 es) (.sl 4) (accV 1 es) = .sl 4 es:=by
 cases es with
 | nil=>rw [qbl,qvp]
 | cons e es =>
   rw [qbt (by simp),q01,qbu (by simp)]
   simp only [ent,qbfe,if_true]
def qbch (l:List T) (i:Nat):AF×List Ent :=
 (⟨[(3, .ptr 0 0), (8, .sl 4 (qec l)), (9, .int .i64 l.length), (10, .int .i64 i)], []⟩,
   .blk [accV 1 (qec (l.take i)),.int .i64 0,.int .i64 0,.int .i64 0,.str [],.int .i64 0,.int .i64 0,.int .i64 0,.int .i64 0] :: accE 4 (qec (l.take i)))
theorem qzz {l:List T} (h:l≠[]):qec l≠[]:=by cases l with | nil=>exact absurd rfl h | cons _ _=>simp [qec]
theorem q77 {l:List T} {i:Nat} (h:i < l.length):l.take (i + 1) = l.take i ++ [l.getD i T0]:=by
 rw [List.take_add_one,List.getElem?_eq_getElem h,List.getD_eq_getElem?_getD,List.getElem?_eq_getElem h];rfl
theorem capT {n:Nat} (h:n≤1048580):qfe n 40:=by unfold qfe;omega
theorem qbk6 (l:List T) (hl:l.length≤1048577):VCalls Tryz.prog 53 [] [.sl 4 (qec l)] fun H' o=>H' = [curE (newK l)]∧o = .val (.ptr 0 0):=by
 refine qq c0ed 1 (by simp) (by simp) ?_
 have hmx:(1048577:Nat)≤maxLen:=by unfold maxLen;omega
 repeat' (first | refine vs_ ?_ | ((first | refine vr_ ?_ | (refine cs_ ?_ ?_<;>intro hc) | refine cj_ ?_ | simp (disch:=omega) only [qc,qs])<;>(try refine ev_ ?_)) | with_reducible exact ti_)
 refine qcm (S:=Nat) (fun i=>i≤l.length∧∀ t∈l.take i,t.kind≠0) (qbch l) (fun i=>l.length - i) ?_ fun i hi=>?_
 ·refine qb1 0 [0] ⟨Nat.zero_le _,by simp⟩ rfl (by simp) ?_ ?_ ?_<;>simp only [qbch,List.take_zero,qzg,qbl,qbo]<;>(try refine ev_ ?_)<;>(try with_reducible exact ti_)<;>(try simp (disch:=omega) only [qs,and_true,true_and])
 ·obtain ⟨hi,ha⟩:=hi
  unfold qbch
  by_cases hx:i < l.length∧(l.getD i T0).kind≠0
  ·have hT:AV.agg [.int .i64 (l.getD i T0).kind,.int .i64 (l.getD i T0).pos,.int .i64 (l.getD i T0).num,.str (l.getD i T0).text] = encT (l.getD i T0):=rfl
   have hts:=q77 hx.1
   have hne:qec (l.take (i + 1))≠[]:=qzz (by rw [hts];simp)
   have hlen:(l.take (i + 1)).length = i + 1:=by rw [List.length_take];omega
   by_cases h0:i = 0
   ·subst h0
    simp only [List.take_zero,qzg,qbl,qbo]
    repeat' (first | refine vs_ ?_ | ((first | refine vr_ ?_ | simp (disch:=omega) only [qhe] | (refine cs_ ?_ ?_<;>intro hc) | refine cj_ ?_ | simp (disch:=omega) only [qc,qs])<;>(try refine ev_ ?_)) | with_reducible exact ti_)
    ·exact absurd (by assumption) hx.2
    ·refine qb1 1 [0,2] ⟨⟨by omega,qng (by omega) ha hx.2⟩,by omega⟩ rfl (by simp) ?_ ?_ ?_
     all_goals simp only [qbch,qbt hne,qbu hne,qnn,hlen]
     all_goals (try simp only [Nat.zero_add] at hts)
     all_goals simp only [hts,List.take_zero,List.nil_append]
     all_goals (refine ev_ ?_;(try with_reducible exact ti_))
     all_goals first | exact ⟨rfl,rfl⟩ | exact congrArg _ (by decide) | rfl | trace_state
    ·omega
   ·have hne0:qec (l.take i)≠[]:=qzz (by intro e;have:=congrArg List.length e;simp only [List.length_take,List.length_nil] at this;omega)
    have hli:(l.take i).length = i:=by rw [List.length_take];omega
    simp only [qbt hne0,qbu hne0,qnn]
    have hat:∀ ac:List T,ac = l.take i->qec ac ++ [encT (l.getD i T0)] = qec (l.take (i + 1)):=fun ac e=>by rw [e,qrm,hts]
    generalize hac:l.take i = ac at *
    have hcap:qfe (ac.length + 1) 40:=capT (by omega)
    have hil:(i:Int) < l.length:=by omega
    have hkd:=hx.2
    repeat' (first | refine vs_ ?_ | ((first | refine vr_ ?_ | fail)<;>(try simp (disch:=first | omega | (simp only [List.length_set,List.length_append,List.length_cons,List.length_nil];done) | (simp only [List.length_set,List.length_append,List.length_cons,List.length_nil];omega)) only [hil,hkd,qhe,ne_eq,go_sem,↓reduceIte])) | ((first | (refine cs_ ?_ ?_<;>intro hc) | refine cj_ ?_ | simp (disch:=omega) only [qc,qs])<;>(try refine ev_ ?_)) | with_reducible exact ti_)
    ·refine qb1 (i + 1) [0,3] ⟨⟨by omega,qng (by omega) (by rw [hac];exact ha) hx.2⟩,by omega⟩ rfl (by simp) ?_ ?_ ?_
     all_goals simp only [qbch,qbt hne,qbu hne,qnn,hlen]
     all_goals rw [← hat ac rfl]
     all_goals (skip<;>(try refine ev_ ?_)<;>(try with_reducible exact ti_)<;>(try simp (disch:=omega) only [qs,and_true,true_and]))
     rw [hli,qrm ac,qtx]
     exact ⟨rfl,qm3 _ _,rfl⟩
  ·refine qbaj 0 0 (.sl 4) rfl ?_
   simp only [List.set_cons_zero,List.getD_cons_zero,qcfy]
   repeat' (first | refine vs_ ?_ | ((first | refine vr_ ?_ | simp (disch:=omega) only [qhe] | (refine cs_ ?_ ?_<;>intro hc) | refine cj_ ?_ | simp (disch:=omega) only [qc,qs])<;>(try refine ev_ ?_)) | with_reducible exact ti_)
   ·obtain ⟨g1,g2⟩:=qbea ha (by omega) (by assumption)
    rw [newK,g1,g2];rfl
   ·exact hx ⟨by omega,by assumption⟩
   ·rw [List.take_of_length_le (by omega)] at ha ⊢
    obtain ⟨g1,g2⟩:=qbbq ha
    rw [newK,g1,g2];rfl
end Go.Proofs.YtlmcofjcpadmiaaGreat
