/- Texts of this proof, joined. -/
import Derived.Test.YtlmcofjcpadmiaaGreatNbt
import Derived.Test.YtlmcofjcpadmiaaGreatNbu
import Derived.Test.YtlmcofjcpadmiaaGreatNao
set_option linter.unusedVariables false
set_option linter.unusedSimpArgs false

/- expressions: what is read is an expression -/
namespace Go.Proofs.YtlmcofjcpadmiaaGreat
open Go Go.RowKit Go.V

theorem okM {c c':K} (h:okK c) (m:Mon c c'):okK c':=by unfold okK;rw [m.2.2.2.1];exact h
theorem qbh0 {c:K} (hc:okK c) {n:N} (h:qhc c = some n):paW n = true:=by
 obtain ⟨h1,h2,h3⟩:=qfm hc
 unfold qhc at h
 split at h
 ·rename_i hk;cases h;rw [paW,if_pos rfl,h1 hk];rfl
 ·split at h
  ·rename_i hk;cases h;rw [paW,if_neg (by decide),if_neg (by decide),if_neg (by decide),if_pos rfl,h2 hk,pasW];rfl
  ·split at h
   ·rename_i hk;cases h;rw [paW,if_neg (by decide),if_neg (by decide),if_pos rfl,decide_eq_true (h3 hk)];rfl
   ·split at h
    ·cases h;rw [paW,if_neg (by decide),if_pos rfl];rfl
    ·cases h
section
variable {rec:K->K×Option N} (hm:∀ c,Mon c (rec c).1) (ih:∀ c,okK c->∀ n,(rec c).2 = some n->paW n = true)
include hm ih
omit hm in
theorem q5u {c:K} (hc:okK c):∀ n,(qbk rec c).2 = some n->paW n = true:=by
 intro n h
 unfold qbk at h
 split at h
 ·exact qbh0 hc h
 ·split at h
  ·split at h
   ·split at h
    ·split at h
     ·exact ih _ (okM hc ((qo c).trans (qbj _))) n h
     ·cases h
    ·cases h
   ·cases h
  ·cases h
theorem q43:∀ (f:Nat) (c:K) (acc:List N),okK c->acc.all paW = true->∀ l,(qew rec f c acc).2 = some l->l.all paW = true
 | 0,c,acc,_,_=>fun n h=>by cases h
 | f + 1, c, acc, hc, ha => fun l h => by
   rw [qew] at h
   split at h
   ·split at h
    ·rename_i hs
     obtain ⟨n,hn⟩:=Option.isSome_iff_exists.1 hs
     refine q43 f _ _ (okM hc (qjs hm c)) ?_ l h
     rw [List.all_append,ha,hn]
     simp [q5u ih hc n hn]
    ·cases h
   ·cases h;exact ha
end
theorem qbd6:∀ (f:Nat) (c:K),okK c->∀ n,(qb6 f c).2 = some n->paW n = true
 | 0,c,hc=>fun n h=>by cases h
 | f + 1, c, hc => fun n h => by
   rw [qb6] at h
   split at h
   ·split at h
    ·rename_i hk
     obtain ⟨l,hl,rfl⟩:=Option.map_eq_some_iff.1 h
     have h1:=q43 (qes f) (qbd6 f) (rest (qb c).1 + 1) (qg (qb c).1) [] (okM hc ((qo c).trans (qbj _))) rfl l hl
     rw [paW,if_neg (by decide),if_neg (by decide),if_neg (by decide),if_pos rfl,(qfm (okM hc (qo c))).2.1 hk,q4a,h1];rfl
    ·exact q5u (qbd6 f) (okM hc (qo c)) n h
   ·cases h

/-! Expressions. -/
theorem qbhc {c:K} (hc:okK c) {n:N} (h:qgm c = some n):exW n = true:=by
 obtain ⟨h1,h2,h3⟩:=qfm hc
 unfold qgm qgr at h
 rw [qpt]
 split at h
 ·rename_i hk;cases h;simp [N.kind,N.num,N.text,N.kids,h1 hk]
 ·split at h
  ·rename_i hk;cases h;simp [N.kind,N.num,N.text,N.kids,h2 hk]
  ·split at h
   ·rename_i hk;cases h;simp [N.kind,N.num,N.text,N.kids,h3 hk]
   ·cases h
theorem qcjd {n k:N} (hn:exW n = true) (hk:exW k = true):exW (appN n k) = true:=by
 rw [qpt];simp [appN,N.kind,N.num,N.text,N.kids,hn,hk]
theorem qcfl {t:T} {n:N} (ht:varW t.text = true) (hn:exW n = true):exW (lamN t n) = true:=by
 rw [qpt];simp [lamN,N.kind,N.num,N.text,N.kids,hn,ht]
theorem qbu3 {t:T} {n:N} (ht:varW t.text = true) (hn:exW n = true):biW (qm9 31 t n) = true:=by
 rw [q4f];simp [qm9,N.kind,N.num,N.text,N.kids,hn,ht]
theorem qb9d {t:T} {n:N} (ht:varW t.text = true) (hn:quW n = true):sgW (qm9 32 t n) = true:=by
 simp [sgW,qm9,N.kind,N.num,N.text,N.kids,hn,ht]
theorem qcjs {p e:N} (hp:paW p = true) (he:exW e = true):alW (altN p e) = true:=by
 rw [qbdv];simp [altN,N.kind,N.num,N.text,N.kids,hp,he]
theorem qchf {p:Int} {l:List N} {k:N} (h0:l≠[]) (hl:l.all (fun x=>biW x || sgW x) = true) (hk:exW k = true):exW (.mk 26 p 0 [] (l ++ [k])) = true:=by
 have h1:((l ++ [k]).length:Int) - 1 = l.length:=by simp
 have h2:(l ++ [k]).take l.length = l:=by simp
 have h3:(l ++ [k]).getD l.length N0 = k:=by simp [List.getD_eq_getElem?_getD]
 have h4:1≤l.length:=by cases l with | nil=>exact absurd rfl h0 | cons _ _=>simp
 rw [qpt]
 simp only [N.kind,N.num,N.text,N.kids,h1,Int.toNat_natCast,h2,h3,hl,hk,Int.reduceEq,if_false,if_true,decide_true,Bool.true_and,Bool.and_true,decide_eq_true_eq]
 refine decide_eq_true ?_
 simp only [List.length_append,List.length_cons,List.length_nil]
 omega
theorem qcae {p:Int} {x:N} {l:List N} (h0:l≠[]) (hx:exW x = true) (hl:l.all alW = true):exW (.mk 27 p 0 [] (x :: l)) = true:=by
 have h4:1≤l.length:=by cases l with | nil=>exact absurd rfl h0 | cons _ _=>simp
 rw [qpt]
 simp only [N.kind,N.num,N.text,N.kids,List.getD_cons_zero,List.drop_succ_cons,List.drop_zero,hl,hx,Int.reduceEq,if_false,if_true,decide_true,Bool.true_and,Bool.and_true,decide_eq_true_eq]
 refine decide_eq_true ?_
 simp only [List.length_cons]
 omega
section
variable {rec:K->K×Option N} (hm:∀ c,Mon c (rec c).1) (ih:∀ c,okK c->∀ n,(rec c).2 = some n->exW n = true)
include hm ih
omit hm in
theorem qmy {c:K} (hc:okK c) (hs:(rec c).2.isSome = true):exW ((rec c).2.getD N0) = true:=by
 obtain ⟨n,hn⟩:=Option.isSome_iff_exists.1 hs
 rw [hn]
 exact ih c hc n hn
omit hm in
theorem qbcr {c:K} (hc:okK c):∀ n,(qu rec c).2 = some n->exW n = true:=by
 intro n h
 unfold qu at h
 split at h
 ·exact qbhc hc h
 ·split at h
  ·split at h
   ·split at h
    ·split at h
     ·exact ih _ (okM hc ((qo c).trans (qbj _))) n h
     ·cases h
    ·cases h
   ·cases h
  ·cases h
theorem qba9:∀ (f:Nat) (c:K) (n:N),okK c->exW n = true->(qdm rec f c n).2.2 = true->exW (qdm rec f c n).2.1 = true
 | 0,c,n=>fun _ _ h=>by cases h
 | f + 1, c, n => fun hc hn h => by
   rw [qdm] at h ⊢
   split at h
   ·rename_i h1
    rw [if_pos h1]
    split at h
    ·rename_i h2
     rw [if_pos h2]
     exact qba9 f _ _ (okM hc (qc6 hm c)) (qcjd hn (qmy (rec:=qu rec) (fun c hc=>qbcr ih hc) hc h2)) h
    ·cases h
   ·rename_i h1
    rw [if_neg h1]
    exact hn
theorem qcgg {c:K} (hc:okK c) (h:(qe1 rec c).2.2 = true):exW (qe1 rec c).2.1 = true:=by
 unfold qe1 at h ⊢
 split at h
 ·rename_i h1
  rw [if_pos h1]
  exact qba9 hm ih _ _ _ (okM hc (qc6 hm c)) (qmy (rec:=qu rec) (fun c hc=>qbcr ih hc) hc h1) h
 ·cases h
omit hm in
theorem q25 (x:List UInt8):∀ (f:Nat) (c:K),okK c->(qb0 rec x f c).2.2 = true->exW (qb0 rec x f c).2.1 = true
 | 0,c=>fun _ h=>by cases h
 | f + 1, c => fun hc h => by
   rw [qb0] at h ⊢
   split at h
   ·rename_i h1
    rw [if_pos h1]
    exact qcfl ((qfm hc).1 h1) (q25 x f (qg c) (okM hc (qbj c)) h)
   ·rename_i h1
    rw [if_neg h1]
    split at h
    ·rename_i h2
     rw [if_pos h2]
     exact qmy ih (okM hc (qe c x)) h
    ·cases h
omit hm in
theorem qbcg {c:K} (hc:okK c):∀ n,(qbm rec c).2 = some n->(biW n || sgW n) = true:=by
 intro n h
 unfold qbm at h
 split at h
 ·rename_i h1
  have ht:varW (qen c 1).text = true:=by rw [(qj9 h1).2];exact (qfm hc).1 (qg7 h1).2
  split at h
  ·obtain ⟨q,hq,rfl⟩:=Option.map_eq_some_iff.1 h
   rw [qb9d ht (qb7x (okM hc ((qbp c 1).trans (qm _ _))) q hq),Bool.or_true]
  ·obtain ⟨q,hq,rfl⟩:=Option.map_eq_some_iff.1 h
   unfold toO at hq
   simp only at hq
   split at hq
   ·rename_i h2
    cases hq
    rw [qbu3 ht (q25 ih _ _ _ (okM hc (qbp c 1)) h2),Bool.true_or]
   ·cases hq
 ·cases h
omit hm ih in
theorem q46 {rd:K->R3} {P:N->Bool} (hd:∀ c,Mon c (rd c).1) (hP:∀ c,okK c->(rd c).2.2 = true->P (rd c).2.1 = true):∀ (f:Nat) (c:K) (acc:List N),okK c->acc.all P = true->(qbn rd f c acc).2.2 = true->(qbn rd f c acc).2.1.all P = true
 | 0,c,acc=>fun _ _ h=>by cases h
 | f + 1, c, acc => fun hc ha h => by
   rw [qbn] at h ⊢
   split at h
   ·rename_i h1
    rw [if_pos h1]
    have h2:(acc ++ [(rd c).2.1]).all P = true:=by rw [List.all_append,ha];simp [hP c hc h1]
    split at h
    ·rename_i h3
     rw [if_pos h3]
     exact q46 hd hP f _ _ (okM hc ((hd c).trans (qm _ _))) h2 h
    ·rename_i h3
     rw [if_neg h3]
     exact h2
   ·cases h
omit hm ih in
theorem qbaa {rd:K->R3} {P:N->Bool} (hd:∀ c,Mon c (rd c).1) (hP:∀ c,okK c->(rd c).2.2 = true->P (rd c).2.1 = true) {c:K} (hc:okK c) (h:(q8 rd c).2.2 = true):(q8 rd c).2.1.all P = true:=by
 unfold q8 at h ⊢
 split at h
 ·rename_i h1
  rw [if_pos h1]
  exact q46 hd hP _ _ _ (okM hc (qe _ _)) rfl h
 ·cases h
theorem qcbw (p:Int) {c:K} (hc:okK c) (h:(qgo rec p c).2.2 = true):exW (qgo rec p c).2.1 = true:=by
 unfold qgo letB letC at h ⊢
 have hl:=qbaa (rd:=fun c=>ofO (qbm rec c)) (P:=fun x=>biW x || sgW x) (fun c=>qe7 hm c) (fun c hc hs=>by
  obtain ⟨n,hn⟩:=Option.isSome_iff_exists.1 hs
  simp only [ofO]
  rw [hn]
  exact qbcg ih hc n hn) hc
 have hn:=@qop (fun c=>ofO (qbm rec c)) c
 have hml:=qfu (rd:=fun c=>ofO (qbm rec c)) (fun c=>qe7 hm c) c
 split at h
 ·rename_i h1
  rw [if_pos h1]
  split at h
  ·rename_i h2
   rw [if_pos h2]
   exact qchf (hn h1) (hl h1) (qmy ih (okM hc (hml.trans (qe _ _))) h)
  ·cases h
 ·cases h
omit hm in
theorem qb9b {c:K} (hc:okK c) (h:(qdv rec c).2.2 = true):alW (qdv rec c).2.1 = true:=by
 unfold qdv altB altC at h ⊢
 split at h
 ·rename_i h1
  rw [if_pos h1]
  obtain ⟨n,hn⟩:=Option.isSome_iff_exists.1 h1
  split at h
  ·rename_i h2
   rw [if_pos h2,hn]
   exact qcjs (qbd6 _ _ hc n hn) (qmy ih (okM hc ((qes _ c).trans (qe _ _))) h)
  ·cases h
 ·cases h
theorem qbj9 (p:Int) {c:K} (hc:okK c) (h:(qeh rec p c).2.2 = true):exW (qeh rec p c).2.1 = true:=by
 unfold qeh qy1 q02 at h ⊢
 split at h
 ·rename_i h1
  rw [if_pos h1]
  split at h
  ·rename_i h2
   rw [if_pos h2]
   exact qcae (qop h) (qmy ih hc h1) (qbaa (P:=alW) (fun c=>qly hm c) (fun c hc hs=>qb9b ih hc hs) (okM hc ((hm c).trans (qe _ _))) h)
  ·cases h
 ·cases h
theorem qba2 (p:Int):∀ (l:List (List UInt8)) (c:K) (acc:List N),okK c->acc.all exW = true->acc.length + l.length = 3->(qda rec p l c acc).2.2 = true->exW (qda rec p l c acc).2.1 = true
 | [], c, acc => fun hc ha hn h => by
   rw [qda,qpt]
   simp only [List.length_nil,Nat.add_zero] at hn
   simp [N.kind,N.num,N.text,N.kids,hn]
   simpa using ha
 | w :: r, c, acc => fun hc ha hn h => by
   rw [qda] at h ⊢
   split at h
   ·rename_i h1
    rw [if_pos h1]
    split at h
    ·rename_i h2
     rw [if_pos h2]
     refine qba2 p r _ _ (okM hc ((qlt c w).trans (hm _))) ?_ (by simp only [List.length_append,List.length_cons,List.length_nil] at hn ⊢;omega) h
     rw [List.all_append,ha]
     simp [qmy ih (okM hc (qlt c w)) h2]
    ·cases h
   ·cases h
theorem qbl2 {c:K} (hc:okK c) (h:(qc8 rec c).2.2 = true):exW (qc8 rec c).2.1 = true:=by
 unfold qc8 at h ⊢
 split at h
 ·rename_i h1
  rw [if_pos h1]
  split at h
  ·rename_i h2
   rw [if_pos h2]
   exact q25 ih _ _ _ (okM hc (qm _ _)) h
  ·cases h
 ·rename_i h1
  rw [if_neg h1]
  split at h
  ·rename_i h2
   rw [if_pos h2]
   exact qcbw hm ih _ (okM hc (qm _ _)) h
  ·rename_i h2
   rw [if_neg h2]
   split at h
   ·rename_i h3
    rw [if_pos h3]
    exact qbj9 hm ih _ (okM hc (qm _ _)) h
   ·rename_i h3
    rw [if_neg h3]
    split at h
    ·rename_i h4
     rw [if_pos h4]
     exact qba2 hm ih _ _ _ _ (okM hc (qm _ _)) rfl rfl h
    ·rename_i h4
     rw [if_neg h4]
     exact qcgg hm ih hc h
end
theorem qbpf:∀ (f:Nat) (c:K),okK c->∀ n,(qfo f c).2 = some n->exW n = true
 | 0,c,_=>fun n h=>by cases h
 | f + 1, c, hc => fun n h => by
   rw [qfo] at h
   split at h
   ·unfold toO at h
    simp only at h
    split at h
    ·rename_i h2
     cases h
     exact qbl2 (qi9 f) (qbpf f) (okM hc (qo c)) h2
    ·cases h
   ·cases h

theorem q6p {n:N} (h:sz n≤1000000):lowW n = decide (depR n≤100):=by
 rw [lowW,qbjz n 1 false (by omega) (by omega),q2k n (by omega)]
 congr 1;simp only [eq_iff_iff];omega
theorem qzu:∀ {l:List T} {t:T},t∈qem l->t∈l
 | [],t,h=>h
 | u :: r, t, h => by
   rw [qem] at h
   split at h
   ·simp at h
   ·rcases List.mem_cons.1 h with rfl | h
    ·simp
    ·exact List.mem_cons_of_mem _ (qzu h)
theorem qb5i (s:List UInt8):okK (newK (lexV s).1):=fun t ht=>q7v t (qzu ht)
end Go.Proofs.YtlmcofjcpadmiaaGreat
