/- Texts of this proof, joined. -/
import Derived.Test.YtlmcofjcpadmiaaGreatDau
import Derived.Test.YtlmcofjcpadmiaaGreatDav
set_option linter.unusedVariables false
set_option linter.unusedSimpArgs false

/- the cursor: what it is, what its methods do -/
set_option maxRecDepth 4000
namespace Go.Proofs.YtlmcofjcpadmiaaGreat
open Go Go.RowKit Go.V

attribute [go_sem] cond_true cond_false
structure K where
 l:List T
 ep:Int
 at':Nat
 nest:Nat
 err:Int
 pos:Int
def K.ok (c:K):Prop:=c.at'≤c.l.length∧c.l.length≤maxLen
def curE (c:K):Ent:=.blk [.sl 4 (qdo c.l),.int .i64 0,.int .i64 c.ep,.int .i64 0,.str [],.int .i64 c.at',.int .i64 c.nest,.int .i64 c.err,.int .i64 c.pos]
def K.bad (c:K):Bool:=!decide (c.err = 0)
theorem qgx {c:K} (h:c.bad = false):c.err = 0:=by simpa [K.bad] using h
theorem qg1 {c:K} (h:c.bad = true):¬ c.err = 0:=by simpa [K.bad] using h
def qs (c:K):T:=if c.err = 0 then if c.at' < c.l.length then c.l.getD c.at' T0 else ⟨0,c.ep,0,[]⟩ else T0
def qi (c:K):K:=if c.err = 0 then if c.at' < c.l.length then { c with at':=c.at' + 1 } else c else c
def qce (t:T) (s:List UInt8):Bool:=(decide (t.kind = 4) || decide (t.kind = 5)) && decide (t.text = s)
def isK (c:K) (s:List UInt8):Bool:=decide (c.err = 0) && qce (qs c) s
def qev (c:K) (e:Int):K:=if c.err = 0 then { c with err:=if e = 0 then 1 else e,pos:=(qs c).pos } else c
def qn (c:K) (s:List UInt8):K×Bool:=if isK c s = true then (qi c,true) else (c,false)
def qr (c:K) (s:List UInt8):K×Bool:=if isK c s = true then (qi c,true) else (qev c 5,false)
def qd (c:K):K×Bool:=if c.err = 0 then if c.nest < 200 then ({ c with nest:=c.nest + 1 },true) else (qev c 2,false) else (c,false)
def qdh (c:K):K:=if c.err = 0 then if 0 < c.nest then { c with nest:=c.nest - 1 } else c else c
def qj7 (c:K):Int×Int:=if c.err = 0 then if c.at' < c.l.length then ((c.l.getD c.at' T0).pos,5) else (c.ep,0) else (c.pos,c.err)

theorem qp (k:Nat) (c:K):(curE c).bd k = true:=by
 simp only [curE,Ent.bd,AV.bds,AV.bd,qk1,Bool.and_true]
theorem qcv (σ:Nat->Nat) (c:K):(curE c).ren σ = curE c:=Ent.ren_same (m:=0) (fun i hi=>by omega) _ (qp 0 c)
attribute [go_sem] curE
def qbt (P:Program) (f:FuncId) (e e':Ent) (args:List AV) (r:AV):Prop:=VCalls P f [e] args fun H' o=>H' = [e']∧o = .val r
section
variable {P:Program} {f:FuncId} {e e':Ent} {L:List Ent} {args:List AV} {r:AV} {Q:List Ent->VO->Prop}
theorem qbu (h:qbt P f e e' args r) (hb:e.bd 1 = true) (hb':e'.bd 1 = true) (ha:AV.bds 1 args = true) (hr:r.bd 1 = true) (hq:r.wf->Q (e' :: L) (.val r)):VApp P (e :: L) (.fn f [] []) args Q :=
 qbr (first:=[]) (caps:=[]) (by
  simp only [List.nil_append,List.append_nil]
  refine qc1 (H0:=[e]) (L:=L) (h.mono' (Q':=fun H' o=>(H' = [e']∧o = .val r)∧r.wf) fun H' o hw ho=>⟨ho,by have:=ho.2;subst this;exact hw⟩) (by simp [hb]) ha ?_
  rintro H1 o ⟨⟨rfl,rfl⟩,hw⟩
  exact ⟨rfl,by simp [hb'],hr,hq hw⟩)
theorem q68 (h:qbt P f e e args r) (hb:e.bd 1 = true) (ha:AV.bds 1 args = true) (hr:r.bd 1 = true) {rs:List AV} {Kk:Md->AV->List Ent->Prop} (hq:r.wf->Kk .here r (e :: L)) (hw:r.wf):DApp P (e :: L) (.fn f [] []) args rs Kk :=
 .inl ⟨r,qbu h hb hb ha hr fun _=>⟨rfl,rfl⟩,hq hw⟩
theorem qcbi (h:qbt P f e e' args r) (hb:e.bd 1 = true) (hb':e'.bd 1 = true) (ha:AV.bds 1 args = true) (hr:r.bd 1 = true) (hn:e≠.dead) {rs:List AV} {Kk:Md->AV->List Ent->Prop} (hq:Kk (.meth 0 e e') r (e' :: L)):DApp P (e :: L) (.fn f [] []) args rs Kk :=
 .inr (.inr (.inl ⟨r,0,e,e',⟨hn,rfl,fun H₀ h0=>by
  cases H₀ with
  | nil=>exact absurd h0.symm hn
  | cons x L' =>
    cases (show x = e from h0)
    exact qbu h hb hb' ha hr fun _=>⟨rfl,rfl⟩⟩,hq⟩))
end

theorem qrp (c:K):qbt Tryz.prog 109 (curE c) (curE c) [.ptr 0 0] (.bool c.bad):=by
 refine qj c0ej 1 (by simp) (by simp) ?_
 unfold K.bad
 repeat' (first | refine vs_ ?_ | ((first | refine vr_ ?_ | (refine cs_ ?_ ?_<;>intro hc) | refine cj_ ?_ | fail)<;>(try refine ev_ ?_)) | with_reducible exact ti_)
section
variable {c:K} {L:List Ent} {Q:List Ent->VO->Prop} {rs:List AV} {Kk:Md->AV->List Ent->Prop}
theorem qgl (h:Q (curE c :: L) (.val (.bool c.bad))):VApp Tryz.prog (curE c :: L) (.fn 109 [] []) [.ptr 0 0] Q:=qbu (qrp c) (qp _ _) (qp _ _) rfl rfl fun _=>h
theorem qbgb (h:Kk .here (.bool c.bad) (curE c :: L)):DApp Tryz.prog (curE c :: L) (.fn 109 [] []) [.ptr 0 0] rs Kk:=q68 (qrp c) (qp _ _) rfl rfl (fun _=>h) trivial
end
section
variable {c:K}
theorem q6m (h:¬ c.err = 0):qs c = T0:=if_neg h
theorem qsb (h:c.err = 0) (h2:(c.at':Int) < c.l.length):qs c = c.l.getD c.at' T0:=by rw [qs,if_pos h,if_pos (by omega)]
theorem qoc (h:c.err = 0) (h2:¬ (c.at':Int) < c.l.length):qs c = ⟨0,c.ep,0,[]⟩:=by rw [qs,if_pos h,if_neg (by omega)]
theorem q8j (h:¬ c.err = 0):qi c = c:=if_neg h
theorem qss (h:c.err = 0) (h2:(c.at':Int) < c.l.length):qi c = { c with at':=c.at' + 1 }:=by rw [qi,if_pos h,if_pos (by omega)]
theorem q8l (h:c.err = 0) (h2:¬ (c.at':Int) < c.l.length):qi c = c:=by rw [qi,if_pos h,if_neg (by omega)]
theorem qoi {e:Int} (h:¬ c.err = 0):qev c e = c:=if_neg h
theorem qbut (h:c.err = 0):qev c 0 = { c with err:=1,pos:=(qs c).pos }:=by rw [qev,if_pos h,if_pos rfl]
theorem qbp7 {e:Int} (h:c.err = 0) (he:¬ e = 0):qev c e = { c with err:=e,pos:=(qs c).pos }:=by rw [qev,if_pos h,if_neg he]
end
section
variable {c:K} {x:List UInt8}
theorem q6q (h:isK c x = true):qn c x = (qi c,true):=if_pos h
theorem qoe (h:isK c x = false):qn c x = (c,false):=by rw [qn,h];rfl
theorem qbmz (h:(qn c x).2 = true):qr c x = ((qn c x).1,true):=by
 unfold qn qr at *
 split at h
 ·rename_i h1;rw [if_pos h1,if_pos h1]
 ·cases h
theorem qb4b (h:(qn c x).2 = false):qr c x = (qev (qn c x).1 5,false):=by
 unfold qn qr at *
 split at h
 ·cases h
 ·rename_i h1;rw [if_neg h1,if_neg h1]
theorem q16 (h:¬ c.err = 0):qd c = (c,false):=if_neg h
theorem qul (h:c.err = 0) (h2:¬ (200:Int)≤c.nest):qd c = ({ c with nest:=c.nest + 1 },true):=by rw [qd,if_pos h,if_pos (by omega)]
theorem qw9 (h:c.err = 0) (h2:(200:Int)≤c.nest):qd c = (qev c 2,false):=by rw [qd,if_pos h,if_neg (by omega)]
theorem q03 (h:¬ c.err = 0):qdh c = c:=if_neg h
theorem qvv (h:c.err = 0) (h2:(0:Int) < c.nest):qdh c = { c with nest:=c.nest - 1 }:=by rw [qdh,if_pos h,if_pos (by omega)]
theorem qbc8 (h:c.err = 0) (h2:¬ (0:Int) < c.nest):qdh c = c:=by rw [qdh,if_pos h,if_neg (by omega)]
theorem q4w (h:¬ c.err = 0):qj7 c = (c.pos,c.err):=if_neg h
theorem q0l (h:c.err = 0) (h2:(c.at':Int) < c.l.length):qj7 c = ((c.l.getD c.at' T0).pos,5):=by rw [qj7,if_pos h,if_pos (by omega)]
theorem qvi (h:c.err = 0) (h2:¬ (c.at':Int) < c.l.length):qj7 c = (c.ep,0):=by rw [qj7,if_pos h,if_neg (by omega)]
end
theorem qbgo (c:K):qbt Tryz.prog 66 (curE c) (curE c) [.ptr 0 0] (encT (qs c)):=by
 refine qj c0ek 1 (by simp) (by simp) ?_
 repeat' (first | refine vs_ ?_ | ((first | refine vr_ ?_ | refine qgl ?_ | simp (disch:=omega) only [qf0] | (refine cs_ ?_ ?_<;>intro hc) | refine cj_ ?_ | simp (disch:=omega) only [qb,qm])<;>(try refine ev_ ?_)) | with_reducible exact ti_)
 ·rw [q6m (qg1 (by assumption))];rfl
 ·rw [qsb (qgx (by assumption)) (by assumption)]
 ·rw [qoc (qgx (by assumption)) (by assumption)];rfl
section
variable {c:K} {L:List Ent} {Q:List Ent->VO->Prop} {rs:List AV} {Kk:Md->AV->List Ent->Prop}
theorem qbq (h:Q (curE c :: L) (.val (encT (qs c)))):VApp Tryz.prog (curE c :: L) (.fn 66 [] []) [.ptr 0 0] Q:=qbu (qbgo c) (qp _ _) (qp _ _) rfl rfl fun _=>h
end
def qcd (t:T) (ls:List (List UInt8)):Bool:=(decide (t.kind = 4) || decide (t.kind = 5)) && ls.contains t.text
theorem q63 (t:T) (ls:List (List UInt8)):qq Tryz.prog 193 [encT t,.sl 1 (ls.map AV.str)] (.bool (qcd t ls)):=by
 refine qg c0el (by simp) (by simp only [go_sem]) rfl fun hw=>?_
 have h1:ls.length≤maxLen:=by have:=hw.2.1.1;rwa [qze] at this
 have loop:∀ (Q:VE->AF->List Ent->Prop) (tm:List (Nat×AV)) (H:List Ent),qcd t ls = ls.contains t.text->H = [.blk [.int .i64 t.kind,.int .i64 t.pos,.int .i64 t.num,.str t.text]] →
  (get tm 2 = .ptr 0 0∧get tm 15 = .sl 1 (ls.map AV.str)∧get tm 16 = .int .i64 ls.length∧get tm 17 = .int .i64 0) →
  Q = blq 0 (sq Tryz.prog none 26 0 (k0el_r11.seq IC.ret) (retq 0 [(RV.t 4,Co.id)] fun H' o=>o = VO.val (AV.bool (qcd t ls)))) →
  VI Tryz.prog none 26 0 k0el_l4.loop Q ⟨tm,[]⟩ H:=by
  rintro Q tm H hwd rfl ⟨h2,h15,h16,h17⟩ rfl
  rw [hwd]
  refine qcc (S:=Nat) (fun i=>i≤ls.length∧ls.contains t.text = (ls.drop i).contains t.text) (fun i=>(⟨[(2,.ptr 0 0),(15,.sl 1 (ls.map AV.str)),(16,.int .i64 ls.length),(17,.int .i64 i)],[]⟩,[.blk [.int .i64 t.kind,.int .i64 t.pos,.int .i64 t.num,.str t.text]])) (fun i=>ls.length - i) ?_ fun i hi=>?_
  ·refine qbl 0 [0] ⟨Nat.zero_le _,rfl⟩ rfl (by simp) ?_ ?_ ?_<;>(try refine ev_ ?_)<;>(try with_reducible exact ti_)<;>(try simp (disch:=omega) only [qm,and_true,true_and])
   exact ⟨h2,h15,h16,h17⟩
  ·obtain ⟨hi,ha⟩:=hi
   repeat' (first | refine vs_ ?_ | ((first | refine vr_ ?_ | simp (disch:=omega) only [qt6] | (refine cs_ ?_ ?_<;>intro hc) | refine cj_ ?_ | simp (disch:=omega) only [qb,qm])<;>(try refine ev_ ?_)) | with_reducible exact ti_)
   ·rw [ha,qog (i:=i) (by omega),List.contains_cons,hc];simp
   ·refine qbl (i + 1) [0] ⟨⟨by omega,?_⟩,by omega⟩ rfl (by simp) ?_ ?_ ?_<;>(try refine ev_ ?_)<;>(try with_reducible exact ti_)<;>(try simp (disch:=omega) only [qm,and_true,true_and])
    rw [ha,qog (i:=i) (by omega),List.contains_cons,beq_eq_false_iff_ne.2 hc,Bool.false_or]
   ·rw [ha,List.drop_of_length_le (by omega)];rfl
 repeat' (first | refine vs_ ?_ | ((first | refine vr_ ?_ | (refine cs_ ?_ ?_<;>intro hc) | refine cj_ ?_ | simp (disch:=omega) only [qb,qm])<;>(try refine ev_ ?_)) | with_reducible exact ti_)
 ·rw [show qcd t ls = false by simp [qcd, *]]
 ·exact loop _ _ _ (by simp [qcd, *]) rfl ⟨rfl,rfl,rfl,rfl⟩ rfl
 ·exact loop _ _ _ (by simp [qcd, *]) rfl ⟨rfl,rfl,rfl,rfl⟩ rfl
theorem qbgy (t:T) (x:List UInt8):qcd t [x] = qce t x:=by
 unfold qcd qce
 congr 1
 by_cases h:t.text = x
 ·simp [h]
 ·simp [h]
theorem qwx (t:T) (x:List UInt8):qq Tryz.prog 193 [encT t,.sl 1 [.str x]] (.bool (qce t x)):=by
 rw [← qbgy];exact q63 t [x]
theorem qbdz (c:K) (hk:c.ok):qbt Tryz.prog 154 (curE c) (curE (qi c)) [.ptr 0 0] (encT (qs c)):=by
 refine qj c0em 1 (by simp) (by simp) ?_
 have h1:=hk.1
 have h2:=hk.2
 repeat' (first | refine vs_ ?_ | ((first | refine vr_ ?_ | refine qgl ?_ | refine qbgb ?_ | refine qbq ?_ | simp (disch:=omega) only [qm] | (refine cs_ ?_ ?_<;>intro hc) | refine cj_ ?_ | simp (disch:=omega) only [qb,qm])<;>(try refine ev_ ?_)) | with_reducible exact ti_)
 ·rw [qss (qgx (by assumption)) (by assumption)]
 ·rw [q8l (qgx (by assumption)) (by assumption)]
 ·rw [q8j (qg1 (by assumption))]
section
variable {c:K} {L:List Ent} {Q:List Ent->VO->Prop} {rs:List AV} {Kk:Md->AV->List Ent->Prop} {x:List UInt8} {e:Int}
theorem qjb (hk:c.ok) (h:Q (curE (qi c) :: L) (.val (encT (qs c)))):VApp Tryz.prog (curE c :: L) (.fn 154 [] []) [.ptr 0 0] Q:=qbu (qbdz c hk) (qp _ _) (qp _ _) rfl rfl fun _=>h
theorem qcce (c:K) (x:List UInt8):qbt Tryz.prog 155 (curE c) (curE c) [.ptr 0 0,.str x] (.bool (isK c x)):=by
 refine qj c0en 1 (by simp) (by simp) ?_
 repeat' (first | refine vs_ ?_ | ((first | refine vr_ ?_ | refine qgl ?_ | refine qbq ?_ | refine qa (qwx _ _) fun _=>?_ | (refine cs_ ?_ ?_<;>intro hc) | refine cj_ ?_ | fail)<;>(try refine ev_ ?_)) | with_reducible exact ti_)
 ·rw [isK,decide_eq_true (qgx (by assumption))];rfl
 ·rw [isK,decide_eq_false (qg1 (by assumption))];rfl
theorem a_Is (h:Q (curE c :: L) (.val (.bool (isK c x)))):VApp Tryz.prog (curE c :: L) (.fn 155 [] []) [.ptr 0 0,.str x] Q:=qbu (qcce c x) (qp _ _) (qp _ _) rfl rfl fun _=>h
theorem q0p (c:K) (e:Int):qbt Tryz.prog 152 (curE c) (curE (qev c e)) [.ptr 0 0,.int .i64 e] (.bool false):=by
 refine qj c0eo 1 (by simp) (by simp) ?_
 repeat' (first | refine vs_ ?_ | ((first | refine vr_ ?_ | refine qgl ?_ | refine qbq ?_ | (refine cs_ ?_ ?_<;>intro hc) | refine cj_ ?_ | fail)<;>(try refine ev_ ?_)) | with_reducible exact ti_)
 ·subst hc;rw [qbut (qgx (by assumption))]
 ·rw [qbp7 (qgx (by assumption)) (by assumption)]
 ·rw [qoi (qg1 (by assumption))]
theorem qq7 (h:Q (curE (qev c e) :: L) (.val (.bool false))):VApp Tryz.prog (curE c :: L) (.fn 152 [] []) [.ptr 0 0,.int .i64 e] Q:=qbu (q0p c e) (qp _ _) (qp _ _) rfl rfl fun _=>h
theorem qfa {rs:List AV} {Kk:Md->AV->List Ent->Prop} (h:Kk (.meth 0 (curE c) (curE (qev c e))) (.bool false) (curE (qev c e) :: L)):DApp Tryz.prog (curE c :: L) (.fn 152 [] []) [.ptr 0 0,.int .i64 e] rs Kk:=qcbi (q0p c e) (qp _ _) (qp _ _) rfl rfl (by simp [curE]) h
theorem qbc5 (c:K) (hk:c.ok) (x:List UInt8):qbt Tryz.prog 105 (curE c) (curE (qn c x).1) [.ptr 0 0,.str x] (.bool (qn c x).2):=by
 refine qj c0ep 1 (by simp) (by simp) ?_
 repeat' (first | refine vs_ ?_ | ((first | refine vr_ ?_ | refine a_Is ?_ | refine qjb hk ?_ | (refine cs_ ?_ ?_<;>intro hc) | refine cj_ ?_ | fail)<;>(try refine ev_ ?_)) | with_reducible exact ti_)
 ·rw [qoe (by assumption)];exact ⟨rfl,rfl⟩
 ·rw [q6q (by assumption)];exact ⟨rfl,rfl⟩
theorem qdp (hk:c.ok) (h:Q (curE (qn c x).1 :: L) (.val (.bool (qn c x).2))):VApp Tryz.prog (curE c :: L) (.fn 105 [] []) [.ptr 0 0,.str x] Q:=qbu (qbc5 c hk x) (qp _ _) (qp _ _) rfl rfl fun _=>h
theorem q9v (c:K) (hk:c.ok) (x:List UInt8):qbt Tryz.prog 156 (curE c) (curE (qr c x).1) [.ptr 0 0,.str x] (.bool (qr c x).2):=by
 refine qj c0eq 1 (by simp) (by simp) ?_
 repeat' (first | refine vs_ ?_ | ((first | refine vr_ ?_ | refine qdp hk ?_ | refine qq7 ?_ | (refine cs_ ?_ ?_<;>intro hc) | refine cj_ ?_ | fail)<;>(try refine ev_ ?_)) | with_reducible exact ti_)
 ·rw [qbmz (by assumption)];exact ⟨rfl,rfl⟩
 ·rw [qb4b (by assumption)];exact ⟨rfl,rfl⟩
theorem qbz (hk:c.ok) (h:Q (curE (qr c x).1 :: L) (.val (.bool (qr c x).2))):VApp Tryz.prog (curE c :: L) (.fn 156 [] []) [.ptr 0 0,.str x] Q:=qbu (q9v c hk x) (qp _ _) (qp _ _) rfl rfl fun _=>h
theorem q3c (c:K):qbt Tryz.prog 95 (curE c) (curE (qd c).1) [.ptr 0 0] (.bool (qd c).2):=by
 refine qj c0er 1 (by simp) (by simp) ?_
 repeat' (first | refine vs_ ?_ | ((first | refine vr_ ?_ | refine qgl ?_ | refine qq7 ?_ | (refine cs_ ?_ ?_<;>intro hc) | refine cj_ ?_ | simp (disch:=omega) only [qb,qm])<;>(try refine ev_ ?_)) | with_reducible exact ti_)
 ·rw [q16 (qg1 (by assumption)),qoi (qg1 (by assumption))];exact ⟨rfl,rfl⟩
 ·rw [qw9 (qgx (by assumption)) (by assumption)];exact ⟨rfl,rfl⟩
 ·rw [qul (qgx (by assumption)) (by assumption),qgz (by omega) (by unfold maxLen;omega)];exact ⟨rfl,rfl⟩
theorem qg2 (h:Q (curE (qd c).1 :: L) (.val (.bool (qd c).2))):VApp Tryz.prog (curE c :: L) (.fn 95 [] []) [.ptr 0 0] Q:=qbu (q3c c) (qp _ _) (qp _ _) rfl rfl fun _=>h
theorem q5o (c:K) (hn:c.nest≤200):qbt Tryz.prog 98 (curE c) (curE (qdh c)) [.ptr 0 0] (.tup []):=by
 refine qj c0es 1 (by simp) (by simp) ?_
 repeat' (first | refine vs_ ?_ | ((first | refine vr_ ?_ | refine qgl ?_ | (refine cs_ ?_ ?_<;>intro hc) | refine cj_ ?_ | fail)<;>(try refine ev_ ?_)) | with_reducible exact ti_)
 ·rw [qvv (qgx (by assumption)) (by assumption),qgz (by omega) (by unfold maxLen;omega)]
  simp only [List.cons.injEq,Ent.blk.injEq,AV.int.injEq,true_and,and_true];omega
 ·rw [qbc8 (qgx (by assumption)) (by assumption)]
 ·rw [q03 (qg1 (by assumption))]
theorem qet (hn:c.nest≤200) (h:Q (curE (qdh c) :: L) (.val (.tup []))):VApp Tryz.prog (curE c :: L) (.fn 98 [] []) [.ptr 0 0] Q:=qbu (q5o c hn) (qp _ _) (qp _ _) rfl rfl fun _=>h
theorem qla (c:K) (hk:c.ok):qbt Tryz.prog 55 (curE c) (curE c) [.ptr 0 0] (.tup [.int .i64 (qj7 c).1,.int .i64 (qj7 c).2]):=by
 refine qj c0et 1 (by simp) (by simp) ?_
 repeat' (first | refine vs_ ?_ | ((first | refine vr_ ?_ | simp (disch:=omega) only [qf0] | (refine cs_ ?_ ?_<;>intro hc) | refine cj_ ?_ | simp (disch:=omega) only [qb,qm])<;>(try refine ev_ ?_)) | with_reducible exact ti_)
 ·rw [q4w (by assumption)]
 ·rw [q0l (by assumption) (by assumption)]
 ·rw [qvi (by assumption) (by assumption)]
theorem qcb8 (hk:c.ok) (h:Q (curE c :: L) (.val (.tup [.int .i64 (qj7 c).1,.int .i64 (qj7 c).2]))):VApp Tryz.prog (curE c :: L) (.fn 55 [] []) [.ptr 0 0] Q:=qbu (qla c hk) (qp _ _) (qp _ _) rfl rfl fun _=>h
end
set_option maxRecDepth 4000

def refC (c:K):AV:=.agg [.sl 4 (qdo (c.l.drop c.at')),.int .i64 0,.int .i64 c.ep,.int .i64 0,.str [],.int .i64 c.nest,.int .i64 c.err,.int .i64 c.pos]
attribute [go_sem] refC
def qfm:List T->List T
 | []=>[]
 | t :: r=>if t.kind = 0 then [] else t :: qfm r
def endT:List T->Int
 | []=>0
 | t :: r=>if t.kind = 0 then t.pos else endT r
def newK (l:List T):K:=⟨qfm l,endT l,0,0,0,0⟩
theorem qhh:∀ l:List T,(qfm l).length≤l.length
 | []=>Nat.le_refl _
 | t :: r => by
   rw [qfm]
   split
   ·exact Nat.zero_le _
   ·have:=qhh r;simp only [List.length_cons];omega
theorem q24 {l:List T} {i:Nat} (h1:∀ t∈l.take i,t.kind≠0) (h:i < l.length) (h2:(l.getD i T0).kind = 0):qfm l = l.take i∧endT l = (l.getD i T0).pos:=by
 induction l generalizing i with
 | nil=>simp at h
 | cons t r ih =>
   cases i with
   | zero=>simp only [List.getD_cons_zero] at h2 ⊢;rw [qfm,endT,if_pos h2,if_pos h2];exact ⟨rfl,rfl⟩
   | succ i =>
     have ht:=h1 t (by simp)
     obtain ⟨g1,g2⟩:=ih (fun u hu=>h1 u (List.mem_cons_of_mem t hu)) (by simpa using h) (by simpa using h2)
     rw [qfm,endT,if_neg ht,if_neg ht,g1,g2]
     exact ⟨rfl,rfl⟩
theorem q7x {l:List T} (h1:∀ t∈l,t.kind≠0):qfm l = l∧endT l = 0:=by
 induction l with
 | nil=>exact ⟨rfl,rfl⟩
 | cons t r ih =>
   obtain ⟨g1,g2⟩:=ih fun u hu=>h1 u (by simp [hu])
   rw [qfm,endT,if_neg (h1 t (by simp)),if_neg (h1 t (by simp)),g1,g2]
   exact ⟨rfl,rfl⟩
theorem qk0 {a:List T} {i:Nat} (h:i < a.length) {p:T->Prop} (h1:∀ t∈a.take i,p t) (h2:p (a.getD i T0)):∀ t∈a.take (i + 1),p t:=by
 intro t ht
 rw [List.take_add_one,List.getElem?_eq_getElem h] at ht
 rcases List.mem_append.1 ht with ht | ht
 ·exact h1 t ht
 ·simp only [Option.toList_some,List.mem_singleton] at ht
  subst ht
  rwa [List.getD_eq_getElem?_getD,List.getElem?_eq_getElem h] at h2
theorem qcb7 (x:Ent) (es:List AV):co (x :: accE 4 es) (.sl 4) (accV 1 es) = .sl 4 es:=by
 cases es with
 | nil=>rw [qbb,qr4]
 | cons e es =>
   rw [qbi (by simp),qwo,qbh (by simp)]
   simp only [ent,q5e,if_true]
def q8s (l:List T) (i:Nat):AF×List Ent :=
 (⟨[(3, .ptr 0 0), (8, .sl 4 (qdo l)), (9, .int .i64 l.length), (10, .int .i64 i)], []⟩,
   .blk [accV 1 (qdo (l.take i)),.int .i64 0,.int .i64 0,.int .i64 0,.str [],.int .i64 0,.int .i64 0,.int .i64 0,.int .i64 0] :: accE 4 (qdo (l.take i)))
theorem qux {l:List T} (h:l≠[]):qdo l≠[]:=by cases l with | nil=>exact absurd rfl h | cons _ _=>simp [qdo]
theorem q13 {l:List T} {i:Nat} (h:i < l.length):l.take (i + 1) = l.take i ++ [l.getD i T0]:=by
 rw [List.take_add_one,List.getElem?_eq_getElem h,List.getD_eq_getElem?_getD,List.getElem?_eq_getElem h];rfl
theorem capT {n:Nat} (h:n≤1048580):qec n 40:=by unfold qec;omega
theorem qnl (l:List T) (hl:l.length≤1048577):VCalls Tryz.prog 53 [] [.sl 4 (qdo l)] fun H' o=>H' = [curE (newK l)]∧o = .val (.ptr 0 0):=by
 refine qj c0ei 1 (by simp) (by simp) ?_
 have hmx:(1048577:Nat)≤maxLen:=by unfold maxLen;omega
 repeat' (first | refine vs_ ?_ | ((first | refine vr_ ?_ | (refine cs_ ?_ ?_<;>intro hc) | refine cj_ ?_ | simp (disch:=omega) only [qb,qm])<;>(try refine ev_ ?_)) | with_reducible exact ti_)
 refine qcc (S:=Nat) (fun i=>i≤l.length∧∀ t∈l.take i,t.kind≠0) (q8s l) (fun i=>l.length - i) ?_ fun i hi=>?_
 ·refine qbl 0 [0] ⟨Nat.zero_le _,by simp⟩ rfl (by simp) ?_ ?_ ?_<;>simp only [q8s,List.take_zero,qwi,qbb,qbc]<;>(try refine ev_ ?_)<;>(try with_reducible exact ti_)<;>(try simp (disch:=omega) only [qm,and_true,true_and])
 ·obtain ⟨hi,ha⟩:=hi
  unfold q8s
  by_cases hx:i < l.length∧(l.getD i T0).kind≠0
  ·have hT:AV.agg [.int .i64 (l.getD i T0).kind,.int .i64 (l.getD i T0).pos,.int .i64 (l.getD i T0).num,.str (l.getD i T0).text] = encT (l.getD i T0):=rfl
   have hts:=q13 hx.1
   have hne:qdo (l.take (i + 1))≠[]:=qux (by rw [hts];simp)
   have hlen:(l.take (i + 1)).length = i + 1:=by rw [List.length_take];omega
   by_cases h0:i = 0
   ·subst h0
    simp only [List.take_zero,qwi,qbb,qbc]
    repeat' (first | refine vs_ ?_ | ((first | refine vr_ ?_ | simp (disch:=omega) only [qf0] | (refine cs_ ?_ ?_<;>intro hc) | refine cj_ ?_ | simp (disch:=omega) only [qb,qm])<;>(try refine ev_ ?_)) | with_reducible exact ti_)
    ·exact absurd (by assumption) hx.2
    ·refine qbl 1 [0,2] ⟨⟨by omega,qk0 (by omega) ha hx.2⟩,by omega⟩ rfl (by simp) ?_ ?_ ?_
     all_goals simp only [q8s,qbi hne,qbh hne,qle,hlen]
     all_goals (try simp only [Nat.zero_add] at hts)
     all_goals simp only [hts,List.take_zero,List.nil_append]
     all_goals (refine ev_ ?_;(try with_reducible exact ti_))
     all_goals first | exact ⟨rfl,rfl⟩ | exact congrArg _ (by decide) | rfl | trace_state
    ·omega
   ·have hne0:qdo (l.take i)≠[]:=qux (by intro e;have:=congrArg List.length e;simp only [List.length_take,List.length_nil] at this;omega)
    have hli:(l.take i).length = i:=by rw [List.length_take];omega
    simp only [qbi hne0,qbh hne0,qle]
    have hat:∀ ac:List T,ac = l.take i->qdo ac ++ [encT (l.getD i T0)] = qdo (l.take (i + 1)):=fun ac e=>by rw [e,qn1,hts]
    generalize hac:l.take i = ac at *
    have hcap:qec (ac.length + 1) 40:=capT (by omega)
    have hil:(i:Int) < l.length:=by omega
    have hkd:=hx.2
    repeat' (first | refine vs_ ?_ | ((first | refine vr_ ?_ | fail)<;>(try simp (disch:=first | omega | (simp only [List.length_set,List.length_append,List.length_cons,List.length_nil];done) | (simp only [List.length_set,List.length_append,List.length_cons,List.length_nil];omega)) only [hil,hkd,qf0,ne_eq,go_sem,↓reduceIte])) | ((first | (refine cs_ ?_ ?_<;>intro hc) | refine cj_ ?_ | simp (disch:=omega) only [qb,qm])<;>(try refine ev_ ?_)) | with_reducible exact ti_)
    ·refine qbl (i + 1) [0,3] ⟨⟨by omega,qk0 (by omega) (by rw [hac];exact ha) hx.2⟩,by omega⟩ rfl (by simp) ?_ ?_ ?_
     all_goals simp only [q8s,qbi hne,qbh hne,qle,hlen]
     all_goals rw [← hat ac rfl]
     all_goals (skip<;>(try refine ev_ ?_)<;>(try with_reducible exact ti_)<;>(try simp (disch:=omega) only [qm,and_true,true_and]))
     rw [hli,qn1 ac,qp1]
     exact ⟨rfl,qk1 _ _,rfl⟩
  ·refine q4i 0 0 (.sl 4) rfl ?_
   simp only [List.set_cons_zero,List.getD_cons_zero,qcb7]
   repeat' (first | refine vs_ ?_ | ((first | refine vr_ ?_ | simp (disch:=omega) only [qf0] | (refine cs_ ?_ ?_<;>intro hc) | refine cj_ ?_ | simp (disch:=omega) only [qb,qm])<;>(try refine ev_ ?_)) | with_reducible exact ti_)
   ·obtain ⟨g1,g2⟩:=q24 ha (by omega) (by assumption)
    rw [newK,g1,g2];rfl
   ·exact hx ⟨by omega,by assumption⟩
   ·rw [List.take_of_length_le (by omega)] at ha ⊢
    obtain ⟨g1,g2⟩:=q7x ha
    rw [newK,g1,g2];rfl
end Go.Proofs.YtlmcofjcpadmiaaGreat
