/- Texts of this proof, joined. -/
import Derived.Test.YtlmcofjcpadmiaaPbc
import Derived.Test.YtlmcofjcpadmiaaPbh
import Derived.Test.YtlmcofjcpadmiaaPax
set_option linter.unusedVariables false
set_option linter.unusedSimpArgs false

/- declarations that are written are read as they were -/
namespace Go.Proofs.Ytlmcofjcpadmiaa
open Go Go.RowKit Go.V


/-! whole texts -/
theorem qh4:∀ n,dp (qf n) = dp n∧sz (qf n) = sz n:=N.ind fun n ih=>by
 rw [qb3,qj6,qj6 n,qfc,qfc n]
 show dps (qdf n.kids) + 1 = _∧szs (qdf n.kids) + 1 = _
 rw [qb2]
 have:∀ l:List N,(∀ x∈l,dp (qf x) = dp x∧sz (qf x) = sz x)->dps (l.map qf) = dps l∧szs (l.map qf) = szs l:=fun l=>by
  induction l with
  | nil=>exact fun _=>⟨rfl,rfl⟩
  | cons x l ihl =>
    intro h
    obtain ⟨h1,h2⟩:=h x (by simp)
    obtain ⟨h3,h4⟩:=ihl fun y hy=>h y (by simp [hy])
    rw [List.map_cons,dps,dps,szs,szs,h1,h2,h3,h4]
    exact ⟨rfl,rfl⟩
 obtain ⟨h1,h2⟩:=this n.kids ih
 exact ⟨by rw [h1],by rw [h2]⟩
theorem qbgl {a b:N} (h:NS a b):dp a = dp b∧sz a = sz b:=by
 have h:qf a = qf b:=h
 exact ⟨by rw [← (qh4 a).1,h,(qh4 b).1],by rw [← (qh4 a).2,h,(qh4 b).2]⟩
theorem qwg {a b:N} (h:NS a b):qgd a b = true:=by
 have h:qf a = qf b:=h
 have key:∀ a b:N,qf a = qf b->qgd a b = true:=N.ind fun a ih b h=>by
  rw [qb3,qb3,qb2,qb2] at h
  obtain ⟨h1,_,h3,h4,h5⟩:=N.mk.inj h
  rw [qeh,decide_eq_true h1,decide_eq_true h4,decide_eq_true h3,Bool.true_and,Bool.true_and,Bool.true_and]
  have:∀ l m:List N,(∀ x∈l,∀ y,qf x = qf y->qgd x y = true)->l.map qf = m.map qf->qb5 l m = true:=fun l=>by
   induction l with
   | nil =>
     intro m _ e
     cases m with
     | nil=>rfl
     | cons _ _=>cases e
   | cons x l ihl =>
     intro m hx e
     cases m with
     | nil=>cases e
     | cons y m =>
       rw [List.map_cons,List.map_cons] at e
       obtain ⟨e1,e2⟩:=List.cons.inj e
       rw [qb5,hx x (by simp) y e1,ihl m (fun z hz=>hx z (by simp [hz])) e2];rfl
  exact this _ _ ih h5
 exact key a b h
theorem q4q {c:K} (h:Ah c []):(qj1 c).2 = 0:=by
 have hr:remT c = []:=List.map_eq_nil_iff.1 h.2
 have:¬ (c.at':Int) < c.l.length:=by
  have:=congrArg List.length hr
  simp [remT] at this;omega
 rw [qts h.1 this]
theorem qve {rd:K->K×Option N} {s:List UInt8} {ts:List T} {n:N} (hs:s.length≤1000000) (hk:tokW s = some ts) (hz:sz n≤1000000) (hd:dp n≤100) (h:∀ c:K,Ah c ts->c.nest = 0->Got c (rd c) n []):∃ m,qyb rd s = (m,0,0)∧NS m n∧(rd (newK (lexV s).1)).2.getD N0 = m:=by
 obtain ⟨h1,h2⟩:=q2w hs hk
 have hA:Ah (newK (lexV s).1) ts:=⟨rfl,h2⟩
 obtain ⟨x,g1,g2,g3,g4⟩:=h _ hA rfl
 obtain ⟨e1,e2⟩:=qbgl g2
 rw [qyb,if_pos h1,q1f,if_pos (q4q g3),g1]
 dsimp only [Option.getD_some]
 have e3:=qmd x (by omega)
 rw [if_neg (by omega)]
 exact ⟨x,rfl,g2,rfl⟩

theorem q1g {n:N} (hs:sz n≤3000) (h:lowW n = true):dp n≤100:=by
 rw [q54 hs,decide_eq_true_eq,qmd n (by omega)] at h
 omega
section
variable {n:N} (hs:sz n≤3000)
include hs
theorem q9x (hd:dp n≤100) (ht:tyW n = true) (hl:(ptT n).length≤1000000):∃ m,qyb (qbfa false) (ptT n) = (m,0,0)∧qgd m n = true:=by
 obtain ⟨m,h1,h2,_⟩:=qve (rd:=qbfa false) (n:=n) hl (wdT n ht).1.get (by omega) hd fun c h h0=>qjq (rest c + 2) n c [] ht (by rwa [List.append_nil]) (fun t s e=>by cases e) (fun t s e=>by cases e) (by omega) (by omega)
 exact ⟨m,h1,qwg h2⟩
theorem qp9 (hw:(enc n).wf) (hd:dp n≤100) (ht:exW n = true) (hl:(ptE n).length≤1000000):∃ m,expV (ptE n) = (m,0,0)∧NS m n:=by
 obtain ⟨m,h1,h2,h3⟩:=qve (rd:=fun c=>qn2 (rest c + 2) c) (n:=n) hl ((wdE n hw).1 ht).1.get (by omega) hd fun c h h0=>q0t (rest c + 2) n c [] ht hw (by rwa [List.append_nil]) (fun t s e=>by cases e) (by omega) (by omega)
 exact ⟨m,h1,h2⟩
end
theorem bigZ {B k l:Nat} (hB:B≤1048576) (hk:k≤7000) (h:l + 8≤k * (B + 64)):l + 4≤Big:=by
 have:k * (B + 64)≤7000 * 1048640:=Nat.mul_le_mul hk (by omega)
 unfold Big;omega
theorem qu3 {b:Bool} {s:List UInt8} {k:Nat} (hk:8≤k) (h:b = true->s.length + 8≤k):(orE b s).length + 8≤k:=by
 unfold orE
 split
 ·exact h (by assumption)
 ·simpa using hk
theorem szD8 (n:N) (B:Nat):8≤sz n * (B + 64):=by
 have:1 * 64≤sz n * (B + 64):=Nat.mul_le_mul (q1e n) (by omega)
 omega
section
variable {n:N} {B:Nat} (hb:TxB B n) (hB:B≤1048576) (hs:sz n≤7000)
include hb hB hs
theorem qbha:qm Try.prog 13 [enc n] (.str (outT n)) :=
 qhi (by omega) (bigZ hB hs (qu3 (szD8 n B) fun h=>lenT rfl n hb (by rw [Bool.and_eq_true] at h;exact h.2)))
theorem qbac (hw:(enc n).wf):qm Try.prog 6 [enc n] (.str (outE n)) :=
 qf1 (by omega) (bigZ hB hs (qu3 (szD8 n B) fun h=>(lenE rfl n hb hw).1 (by rw [Bool.and_eq_true] at h;exact h.2)))
end


theorem qed (n:N):(qf n).kids = n.kids.map qf:=by rw [qb3,← qb2];rfl
theorem qi7 (n:N):(qf n).kind = n.kind:=by rw [qb3];rfl
theorem q0p (n:N):(qf n).num = n.num:=by rw [qb3];rfl
theorem qf8 (n:N):(qf n).text = n.text:=by rw [qb3];rfl
theorem st_0:qf N0 = N0:=rfl
theorem qer (l:List N) (i:Nat):(l.map qf).getD i N0 = qf (l.getD i N0):=qjn qf N0 st_0 l i
theorem qip (n:N):qn (qf n) = qn n:=by
 unfold qn
 rw [qed]
 cases n.kids<;>simp
theorem qzm {α:Type} {f:N->α} {l:List N} (ih:∀ x∈l,f (qf x) = f x) (i:Nat):f (qf (l.getD i N0)) = f (l.getD i N0):=by
 by_cases h:i < l.length
 ·exact ih _ (qe h)
 ·rw [List.getD_eq_getElem?_getD,List.getElem?_eq_none (by omega)];rfl
theorem qmq {α:Type} {f:N->α} {l:List N} (ih:∀ x∈l,f (qf x) = f x):(l.map qf).map f = l.map f:=by
 rw [List.map_map]
 exact List.map_congr_left fun x hx=>ih x hx
theorem q0z:∀ n,ptT (qf n) = ptT n:=N.ind fun n ih=>by
 rw [qfs (qf n),qfs n,qed,qi7,qf8,qer,qer,qf8,qzm ih,qzm ih,qmq (f:=atT) fun x hx=>by rw [atT,qip,ih x hx];rfl]
theorem qba7 (n:N):atT (qf n) = atT n:=by rw [atT,qip,q0z];rfl
theorem qbb8:∀ n,ptP (qf n) = ptP n:=N.ind fun n ih=>by
 rw [qhf (qf n),qhf n,qed,qi7,qf8,q0p,qmq (f:=atP) fun x hx=>by rw [atP,qip,ih x hx];rfl]
theorem qbc6 (n:N):prT (qf n) = prT n:=by rw [prT,qf8,qed,qer,qba7];rfl
theorem qbde (l:List N):ctT (l.map qf) = ctT l:=by
 unfold ctT
 rw [qmq fun x _=>qbc6 x,List.length_map]
 cases l<;>simp
theorem qbff (n:N):quT (qf n) = quT n:=by
 rw [quT,qed,List.length_map,← List.map_take,qbde,qer,q0z];rfl
theorem qbex (n:N):sgT (qf n) = sgT n:=by rw [sgT,qf8,qed,qer,qbff];rfl
theorem qbf7:∀ n,pba (qf n) = pba n:=N.ind fun n ih=>by
 have hE:ptE (qf n) = ptE n:=by
  rw [qni (qf n),qni n,qed,qi7,qf8,q0p,qer,qer,qer,List.length_map,qip,qip,qi7,← List.map_take,← List.map_drop]
  have e:∀ i,ptE (qf (n.kids.getD i N0)) = ptE (n.kids.getD i N0):=qzm fun x hx=>congrArg (·.1) (ih x hx)
  rw [qer,e,e,e,e]
  rw [qmq (f:=ptB) fun x hx=>congrArg (·.2.1) (ih x (List.mem_of_mem_take hx)),qmq (f:=ptL) fun x hx=>congrArg (·.2.2) (ih x (List.mem_of_mem_drop hx))]
 have e:∀ i,ptE (qf (n.kids.getD i N0)) = ptE (n.kids.getD i N0):=qzm fun x hx=>congrArg (·.1) (ih x hx)
 have hB:ptB (qf n) = ptB n:=by
  rw [qfr (qf n),qfr n,qed,qi7,qf8,qer,List.length_map,qbex,e]
 have hL:ptL (qf n) = ptL n:=by
  rw [qju (qf n),qju n,qed,qer,qer,List.length_map,e,qbb8]
 exact Prod.ext hE (Prod.ext hB hL)
theorem q0r (n:N):ptE (qf n) = ptE n:=congrArg (·.1) (qbf7 n)
theorem qbfo {a b:N} (h:NS a b):ptE a = ptE b:=by rw [← q0r a,← q0r b,show qf a = qf b from h]
theorem q6k:∀ a b:N,qgd a b = true->NS a b:=N.ind fun a ih b h=>by
 rw [qeh] at h
 simp only [Bool.and_eq_true,decide_eq_true_eq] at h
 obtain ⟨⟨⟨h1,h2⟩,h3⟩,h4⟩:=h
 have key:∀ l l':List N,(∀ x∈l,∀ b,qgd x b = true->NS x b)->qb5 l l' = true->qdf l = qdf l':=by
  intro l
  induction l with
  | nil => intro l' _ h; cases l' with
    | nil=>rfl
    | cons y r=>simp [qb5] at h
  | cons x r ihl => intro l' hx h; cases l' with
    | nil=>simp [qb5] at h
    | cons y r' =>
      rw [qb5,Bool.and_eq_true] at h
      rw [qdf,qdf,show qf x = qf y from hx x (by simp) y h.1,ihl r' (fun z hz=>hx z (by simp [hz])) h.2]
 show qf a = qf b
 rw [qb3,qb3,h1,h2,h3,key _ _ ih h4]
set_option maxRecDepth 4000

theorem q2n {a b:N} (ha:fewW a = true) (hb:fewW b = true) (wa:(enc a).wf) (wb:(enc b).wf) (ca:(lowW a && exW a) = true) (cb:(lowW b && exW b) = true) (hl:(ptE a).length≤100000):decide (ptE a = ptE b) = qgd a b:=by
 rw [Bool.and_eq_true] at ca cb
 cases hs:qgd a b with
 | true=>exact decide_eq_true (qbfo (q6k a b hs))
 | false =>
   refine decide_eq_false fun e=>?_
   obtain ⟨m,e1,e2⟩:=qp9 (qkx ha) wa (q1g (qkx ha) ca.1) ca.2 (by omega)
   obtain ⟨m',e3,e4⟩:=qp9 (qkx hb) wb (q1g (qkx hb) cb.1) cb.2 (by rw [← e];omega)
   rw [← e,e1] at e3
   obtain rfl:m = m':=congrArg (·.1) e3
   have:NS a b:=(show qf a = qf m from (show qf m = qf a from e2).symm).trans e4
   rw [qwg this] at hs
   cases hs
theorem qbbi (a b:N):AV.bds 0 [enc a,enc b] = true:=by simp only [AV.bds,qoa];rfl
set_option maxHeartbeats 4000000 in
theorem qhq (a b:N) (hx:fewW a = true->TxB 1048576 a) (hy:fewW b = true->TxB 1048576 b):qm Try.prog 3 [enc a,enc b] (.bool true):=by
 refine qh c0cj (by simp) (qbbi a b) rfl fun hw=>?_
 have wa:(enc a).wf:=hw.1
 have wb:(enc b).wf:=hw.2.1
 cases ha:fewW a with
 | false =>
   have h0:=qt8 ha
   repeat' (first | refine vs_ ?_ | ((first | refine vr_ ?_ | refine qa h0 fun _=>?_ | refine qa qc1 fun _=>?_ | refine qc h0 ?_ | refine qc qc1 ?_ | (refine cs_ ?_ ?_<;>intro hc) | refine cj_ ?_ | fail)<;>(try refine ev_ ?_)) | with_reducible exact ti_)
 | true =>
 have h0:=qq8 ha
 cases hb:fewW b with
 | false =>
   have h1:=qt8 hb
   repeat' (first | refine vs_ ?_ | ((first | refine vr_ ?_ | refine qa h0 fun _=>?_ | refine qa h1 fun _=>?_ | refine qa qc1 fun _=>?_ | refine qc h0 ?_ | refine qc h1 ?_ | refine qc qc1 ?_ | (refine cs_ ?_ ?_<;>intro hc) | refine cj_ ?_ | fail)<;>(try refine ev_ ?_)) | with_reducible exact ti_)
 | true =>
 have h1:=qq8 hb
 have kA:=qiz a
 have kB:=qiz b
 cases ca:lowW a && exW a with
 | false =>
   rw [ca] at kA
   repeat' (first | refine vs_ ?_ | ((first | refine vr_ ?_ | refine qa h0 fun _=>?_ | refine qa h1 fun _=>?_ | refine qa kA fun _=>?_ | refine qa qc1 fun _=>?_ | refine qc h0 ?_ | refine qc h1 ?_ | refine qc kA ?_ | refine qc qc1 ?_ | (refine cs_ ?_ ?_<;>intro hc) | refine cj_ ?_ | fail)<;>(try refine ev_ ?_)) | with_reducible exact ti_)
 | true =>
 rw [ca] at kA
 cases cb:lowW b && exW b with
 | false =>
   rw [cb] at kB
   repeat' (first | refine vs_ ?_ | ((first | refine vr_ ?_ | refine qa h0 fun _=>?_ | refine qa h1 fun _=>?_ | refine qa kA fun _=>?_ | refine qa kB fun _=>?_ | refine qa qc1 fun _=>?_ | refine qc h0 ?_ | refine qc h1 ?_ | refine qc kA ?_ | refine qc kB ?_ | refine qc qc1 ?_ | (refine cs_ ?_ ?_<;>intro hc) | refine cj_ ?_ | fail)<;>(try refine ev_ ?_)) | with_reducible exact ti_)
 | true =>
 rw [cb] at kB
 have pA:=qbac (hx ha) (Nat.le_refl _) (by have:=qkx ha;omega) wa
 have pB:=qbac (hy hb) (Nat.le_refl _) (by have:=qkx hb;omega) wb
 rw [show outE a = ptE a by rw [outE,orE,if_pos ca]] at pA
 rw [show outE b = ptE b by rw [outE,orE,if_pos cb]] at pB
 have hS:=qr9 a b
 by_cases hl:(ptE a).length≤100000
 ·have hE:=q2n ha hb wa wb ca cb hl
  rw [← hE] at hS
  repeat' (first | refine vs_ ?_ | ((first | refine vr_ ?_ | refine qa h0 fun _=>?_ | refine qa h1 fun _=>?_ | refine qa kA fun _=>?_ | refine qa kB fun _=>?_ | refine qa pA fun _=>?_ | refine qa pB fun _=>?_ | refine qa hS fun _=>?_ | refine qa qc1 fun _=>?_ | refine qc h0 ?_ | refine qc h1 ?_ | refine qc kA ?_ | refine qc kB ?_ | refine qc pA ?_ | refine qc pB ?_ | refine qc hS ?_ | refine qc qc1 ?_ | (refine cs_ ?_ ?_<;>intro hc) | refine cj_ ?_ | fail)<;>(try refine ev_ ?_)) | with_reducible exact ti_)
  all_goals try (exfalso;omega)
  all_goals try simp_all
 ·repeat' (first | refine vs_ ?_ | ((first | refine vr_ ?_ | refine qa h0 fun _=>?_ | refine qa h1 fun _=>?_ | refine qa kA fun _=>?_ | refine qa kB fun _=>?_ | refine qa pA fun _=>?_ | refine qa qc1 fun _=>?_ | refine qc h0 ?_ | refine qc h1 ?_ | refine qc kA ?_ | refine qc kB ?_ | refine qc pA ?_ | refine qc qc1 ?_ | (refine cs_ ?_ ?_<;>intro hc) | refine cj_ ?_ | fail)<;>(try refine ev_ ?_)) | with_reducible exact ti_)
  all_goals try (exfalso;omega)
end Go.Proofs.Ytlmcofjcpadmiaa
