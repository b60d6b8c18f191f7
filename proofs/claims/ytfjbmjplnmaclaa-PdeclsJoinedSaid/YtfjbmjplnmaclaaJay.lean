/- Texts of this proof, joined. -/
import Derived.Test.YtfjbmjplnmaclaaJaw
import Derived.Test.YtfjbmjplnmaclaaJax
set_option linter.unusedVariables false
set_option linter.unusedSimpArgs false

/- patterns: the size of what is read -/
namespace Go.Proofs.Ytfjbmjplnmaclaa
open Go Go.RowKit Go.V

theorem qbse {c:K} {n:N} (h:leafP c = some n):sz n = 1:=by
 unfold leafP at h
 repeat' split at h
 all_goals first | (cases h;rw [qhv];rfl) | cases h
section
variable {rec:K->K×Option N} (ih:∀ c n,(rec c).2 = some n->sz n + rest (rec c).1≤rest c)
include ih
theorem q55 {c:K} {n:N} (h:(qba rec c).2 = some n):sz n + rest (qba rec c).1≤rest c:=by
 unfold qba at h ⊢
 split at h
 ·rename_i h1
  rw [if_pos h1]
  have:=qy (qla h)
  have:=qbse h
  simp only;omega
 ·rename_i h1
  rw [if_neg h1]
  split at h
  ·rename_i h2
   rw [if_pos h2]
   split at h
   ·rename_i h3
    rw [if_pos h3]
    have hp:=qy (c:=(qa c).1) (by rw [qd5 h3];exact qda h2)
    have h0:=(qo c).2.1
    split at h
    ·rename_i h4
     rw [if_pos h4]
     split at h
     ·rename_i h5
      rw [if_pos h5]
      have h6:=ih _ _ h
      have h7:=(qe (rec (qg (qa c).1)).1 [41]).2.1
      have h8:=(qx (qc (rec (qg (qa c).1)).1 [41]).1).2.1
      simp only at h6 ⊢;omega
     ·cases h
    ·cases h
   ·cases h
  ·cases h
theorem q5j:∀ (f:Nat) (c:K) (acc l:List N),(qem rec f c acc).2 = some l->szs l + rest (qem rec f c acc).1≤szs acc + rest c
 | 0,c,acc,l=>fun h=>by cases h
 | f + 1, c, acc, l => fun h => by
   rw [qem] at h ⊢
   split at h
   ·rename_i h1
    rw [if_pos h1]
    split at h
    ·rename_i h2
     rw [if_pos h2]
     obtain ⟨n,hn⟩:=Option.isSome_iff_exists.1 h2
     have h3:=q5j f _ _ _ h
     have h4:=q55 ih hn
     rw [qfs,hn] at h3
     simp only [Option.getD_some,szs] at h3
     rw [hn]
     simp only [Option.getD_some]
     omega
    ·cases h
   ·rename_i h1
    rw [if_neg h1]
    cases h
    exact Nat.le_refl _
end
theorem qbry:∀ (f:Nat) (c:K) (n:N),(qbz f c).2 = some n->sz n + rest (qbz f c).1≤rest c
 | 0,_,_=>fun h=>by cases h
 | f + 1, c, n => fun h => by
   rw [qbz] at h ⊢
   have h0:=(qo c).2.1
   split at h
   ·rename_i h1
    rw [if_pos h1]
    split at h
    ·rename_i h2
     rw [if_pos h2]
     have hr:=qy (c:=(qa c).1) (by omega)
     obtain ⟨l,hl,rfl⟩:=Option.map_eq_some_iff.1 h
     have h3:=q5j (qbry f) _ _ _ _ hl
     have h4:=(qx (qem (qbz f) (rest (qa c).1 + 1) (qg (qa c).1) []).1).2.1
     rw [qhv]
     simp only [N.kids,szs] at h3 ⊢
     omega
    ·rename_i h2
     rw [if_neg h2]
     have h3:=q55 (qbry f) h
     have h4:=(qx (qba (qbz f) (qa c).1).1).2.1
     simp only
     omega
   ·cases h
set_option maxRecDepth 4000

theorem qyw {f:Nat} (ih:∀ c,c.good->rest c < f->qb2 Try.prog 66 (curE c) (curE (qel f c).1) [.ptr 0 0] (resP (qel f c).2)) (c:K) (hg:c.good) (hr:rest c < f + 1) :
 qb2 Try.prog 66 (curE c) (curE (qel (f + 1) c).1) [.ptr 0 0] (resP (qel (f + 1) c).2):=by
 have hm:=qjb f
 have g1:(qa c).1.good:=(qo c).1 hg
 have hr1:rest (qa c).1≤f:=by have:=(qo c).2.1;omega
 have ho:=qbdt hm ih _ g1 hr1
 have g2:=(qpw hm (qa c).1).1 g1
 refine ql c0b 1 (by simp) (by simp) ?_
 rw [qel]
 generalize qcz (qel f) (qa c).1 = r at *
 obtain ⟨d,n,ok⟩:=r
 simp only [toO] at ho g2 ⊢
 by_cases hk:(qa c).2 = true
 ·rw [if_pos hk]
  cases ok with
  | false =>
    repeat' (first | refine vs_ ?_ | ((first | refine vr_ ?_ | fail)<;>(try simp only [hk,go_sem,↓reduceIte])) | ((first | (refine cs_ ?_ ?_<;>intro hc) | refine cj_ ?_ | fail | refine qha ?_ | refine qkb ho rfl ?_ | refine qe6 g2.2.2 ?_)<;>(try refine ev_ ?_)) | with_reducible exact ti_)
    all_goals first | (rw [qds];done) | (rw [qds];rfl) | (rw [qds];exact ⟨rfl,rfl⟩)
  | true =>
    repeat' (first | refine vs_ ?_ | ((first | refine vr_ ?_ | fail)<;>(try simp only [hk,go_sem,↓reduceIte])) | ((first | (refine cs_ ?_ ?_<;>intro hc) | refine cj_ ?_ | fail | refine qha ?_ | refine qkb ho rfl ?_ | refine qe6 g2.2.2 ?_)<;>(try refine ev_ ?_)) | with_reducible exact ti_)
    all_goals first | rfl | exact ⟨rfl,rfl⟩
 ·rw [if_neg hk]
  repeat' (first | refine vs_ ?_ | ((first | refine vr_ ?_ | fail)<;>(try simp only [hk,go_sem,↓reduceIte])) | ((first | (refine cs_ ?_ ?_<;>intro hc) | refine cj_ ?_ | fail | refine qha ?_)<;>(try refine ev_ ?_)) | with_reducible exact ti_)
  all_goals first | (rw [qds];done) | (rw [qds];rfl) | (rw [qds];exact ⟨rfl,rfl⟩)
theorem qb2a (f:Nat):∀ c:K,c.good->rest c < f->qb2 Try.prog 66 (curE c) (curE (qel f c).1) [.ptr 0 0] (resP (qel f c).2):=by
 induction f with
 | zero=>exact fun c _ h=>absurd h (by omega)
 | succ f ih=>exact qyw ih

/-! The size of what is read. -/
theorem qiw {k p m:Int} {t:List UInt8} {l:List N}:sz (.mk k p m t l) = szs l + 1:=by rw [qhv];rfl
theorem qbal {c:K} {n:N} (h:leafE c = some n):sz n = 1:=by
 unfold leafE qhq at h
 repeat' split at h
 all_goals first | (cases h;rw [qhv];rfl) | cases h
def SzO (c:K) (r:K×Option N):Prop:=∀ n,r.2 = some n->sz n + 1 + 2 * rest r.1≤2 * rest c
def SzB (c:K) (r:R3):Prop:=r.2.2 = true->sz r.2.1 + 1 + 2 * rest r.1≤2 * rest c
theorem qe9 {c:K} {r:K×Option N} (h:SzO c r) (hs:r.2.isSome = true):sz (r.2.getD N0) + 1 + 2 * rest r.1≤2 * rest c:=by
 obtain ⟨n,hn⟩:=Option.isSome_iff_exists.1 hs
 have:=h n hn
 rw [hn]
 exact this
section
variable {rec:K->K×Option N} (ih:∀ c,SzO c (rec c))
include ih
theorem qz2 (c:K):SzO c (qs rec c):=by
 intro n h
 unfold qs at h ⊢
 split at h
 ·rename_i h1
  rw [if_pos h1]
  have:=qy (ql8 h1)
  have:=qbal h
  simp only;omega
 ·rename_i h1
  rw [if_neg h1]
  split at h
  ·rename_i h2
   rw [if_pos h2]
   split at h
   ·rename_i h3
    rw [if_pos h3]
    have hp:=qy (c:=(qa c).1) (by rw [qd5 h3];exact qda h2)
    have h0:=(qo c).2.1
    split at h
    ·rename_i h4
     rw [if_pos h4]
     split at h
     ·rename_i h5
      rw [if_pos h5]
      have h6:=ih _ _ h
      have h7:=(qe (rec (qg (qa c).1)).1 [41]).2.1
      have h8:=(qx (qc (rec (qg (qa c).1)).1 [41]).1).2.1
      simp only at h6 ⊢;omega
     ·cases h
    ·cases h
   ·cases h
  ·cases h
theorem q1a:∀ (f:Nat) (c d:K) (n:N),sz n + 1 + 2 * rest d≤2 * rest c->SzB c (qd3 rec f d n)
 | 0,c,d,n=>fun h0 h=>by cases h
 | f + 1, c, d, n => fun h0 h => by
   rw [qd3] at h ⊢
   split at h
   ·rename_i h1
    rw [if_pos h1]
    split at h
    ·rename_i h2
     rw [if_pos h2]
     have h3:=qe9 (qz2 ih d) h2
     refine q1a f c _ _ ?_ h
     rw [appN,qiw]
     simp only [szs];omega
    ·cases h
   ·rename_i h1
    rw [if_neg h1]
    exact h0
theorem qbiq (c:K):SzB c (qez rec c):=by
 intro h
 unfold qez at h ⊢
 split at h
 ·rename_i h1
  rw [if_pos h1]
  exact q1a ih _ _ _ _ (qe9 (qz2 ih c) h1) h
 ·cases h
theorem qtj (x:List UInt8):∀ (f:Nat) (c:K),SzB c (qbx rec x f c)
 | 0,c=>fun h=>by cases h
 | f + 1, c => fun h => by
   rw [qbx] at h ⊢
   split at h
   ·rename_i h1
    rw [if_pos h1]
    have h2:=qtj x f (qg c) h
    have h3:=qy (c:=c) (by omega)
    simp only
    rw [lamN,qiw]
    simp only [szs];omega
   ·rename_i h1
    rw [if_neg h1]
    split at h
    ·rename_i h2
     rw [if_pos h2]
     have h3:=qe9 (ih (qc c x).1) h
     have h4:=(qe c x).2.1
     simp only [ofO];omega
    ·cases h
theorem q0u (c:K):SzO c (qbn rec c):=by
 intro n h
 unfold qbn at h ⊢
 split at h
 ·rename_i h1
  rw [if_pos h1]
  have h2:=qvf h1
  split at h
  ·rename_i h3
   rw [if_pos h3]
   obtain ⟨m,hm,rfl⟩:=Option.map_eq_some_iff.1 h
   have h4:=q3y hm
   have h5:=qch h3
   have h6:=(qkk (rest (qd (kindK c 1).1 [58,58]).1 + 2) (qd (kindK c 1).1 [58,58]).1).2.1
   rw [quu,qiw]
   simp only [szs];omega
  ·rename_i h3
   rw [if_neg h3]
   obtain ⟨m,hm,rfl⟩:=Option.map_eq_some_iff.1 h
   unfold toO at hm
   simp only at hm
   split at hm
   ·rename_i h4
    cases hm
    have h5:=qtj ih _ _ _ h4
    rw [quu,qiw]
    simp only [szs];omega
   ·cases hm
 ·cases h
omit ih in
theorem qwk {rd:K->R3} (hd:∀ c,SzB c (rd c)):∀ (f:Nat) (c d:K) (acc:List N),szs acc + 2 * rest d≤2 * rest c->(qbh rd f d acc).2.2 = true->szs (qbh rd f d acc).2.1 + 2 * rest (qbh rd f d acc).1≤2 * rest c
 | 0,c,d,acc=>fun h0 h=>by cases h
 | f + 1, c, d, acc => fun h0 h => by
   rw [qbh] at h ⊢
   split at h
   ·rename_i h1
    rw [if_pos h1]
    have h2:=hd d h1
    have h3:=(qn (rd d).1 [59]).2.1
    split at h
    ·rename_i h4
     rw [if_pos h4]
     refine qwk hd f c _ _ ?_ h
     rw [qfs]
     simp only [szs];omega
    ·rename_i h4
     rw [if_neg h4]
     have h5:=(qe (qd (rd d).1 [59]).1 [125]).2.1
     simp only
     rw [qfs]
     simp only [szs];omega
   ·cases h
omit ih in
theorem q1t {rd:K->R3} (hd:∀ c,SzB c (rd c)) (c:K) (h:(qv rd c).2.2 = true):szs (qv rd c).2.1 + 2 * rest (qv rd c).1≤2 * rest c:=by
 unfold qv at h ⊢
 split at h
 ·rename_i h1
  rw [if_pos h1]
  have h2:=(qe c [123]).2.1
  exact qwk hd _ _ _ _ (by simp only [szs];omega) h
 ·cases h
theorem qbsl (p:Int) (c:K):SzB c (qfv rec p c):=by
 intro h
 unfold qfv letB letC at h ⊢
 have hl:=q1t (rd:=fun c=>ofO (qbn rec c)) (fun c hs=>qe9 (q0u ih c) hs) c
 generalize qv (fun c=>ofO (qbn rec c)) c = L at *
 split at h
 ·rename_i h1
  rw [if_pos h1]
  have hl:=hl h1
  split at h
  ·rename_i h2
   rw [if_pos h2]
   have h3:=qe9 (ih (qc L.1 [105,110]).1) h
   have h4:=qgp h2
   simp only
   rw [qiw,qfs]
   simp only [szs];omega
  ·cases h
 ·cases h
theorem qbkm (c:K):SzB c (qdv rec c):=by
 intro h
 unfold qdv altB altC at h ⊢
 have hp:=qbry (rest c + 2) c
 generalize qbz (rest c + 2) c = r at *
 split at h
 ·rename_i h1
  rw [if_pos h1]
  obtain ⟨n,hn⟩:=Option.isSome_iff_exists.1 h1
  have hp:=hp n hn
  split at h
  ·rename_i h2
   rw [if_pos h2]
   have h3:=qe9 (ih (qc r.1 [45,62]).1) h
   have h4:=qgp h2
   simp only
   rw [altN,qiw,hn]
   simp only [szs,Option.getD_some];omega
  ·cases h
 ·cases h
theorem qbe4 (p:Int) (c:K):SzB c (qd7 rec p c):=by
 intro h
 unfold qd7 qts qxb at h ⊢
 split at h
 ·rename_i h1
  rw [if_pos h1]
  have h2:=qe9 (ih c) h1
  split at h
  ·rename_i h3
   rw [if_pos h3]
   have h4:=q1t (qbkm ih) _ h
   have h5:=qgp h3
   simp only
   rw [qiw]
   simp only [szs];omega
  ·cases h
 ·cases h
theorem q5r (p:Int):∀ (l:List (List UInt8)) (c d:K) (acc:List N),szs acc + 2 * rest d≤2 * rest c->(qc7 rec p l d acc).2.2 = true->sz (qc7 rec p l d acc).2.1 + 2 * rest (qc7 rec p l d acc).1≤2 * rest c + 1
 | [],c,d,acc=>fun h0 h=>by rw [qc7,qiw];simp only;omega
 | w :: r, c, d, acc => fun h0 h => by
   rw [qc7] at h ⊢
   split at h
   ·rename_i h1
    rw [if_pos h1]
    have h2:=(qn3 d w).2.1
    split at h
    ·rename_i h3
     rw [if_pos h3]
     have h4:=qe9 (ih (ifsK d w).1) h3
     refine q5r p r c _ _ ?_ h
     rw [qfs]
     simp only [szs];omega
    ·cases h
   ·cases h
theorem qbbc (c:K):SzB c (qcz rec c):=by
 intro h
 unfold qcz at h ⊢
 split at h
 ·rename_i h1
  rw [if_pos h1]
  have h0:=qch h1
  split at h
  ·rename_i h2
   rw [if_pos h2]
   have:=qtj ih _ _ _ h
   omega
  ·cases h
 ·rename_i h1
  rw [if_neg h1]
  split at h
  ·rename_i h2
   rw [if_pos h2]
   have h0:=qch h2
   have:=qbsl ih _ _ h
   omega
  ·rename_i h2
   rw [if_neg h2]
   split at h
   ·rename_i h3
    rw [if_pos h3]
    have h0:=qch h3
    have:=qbe4 ih _ _ h
    omega
   ·rename_i h3
    rw [if_neg h3]
    split at h
    ·rename_i h4
     rw [if_pos h4]
     have h0:=qch h4
     have:=q5r ih _ _ _ _ _ (by simp only [szs];exact Nat.le_of_eq (Nat.zero_add _)) h
     omega
    ·rename_i h4
     rw [if_neg h4]
     exact qbiq ih c h
end
theorem qbf1:∀ (f:Nat) (c:K),SzO c (qel f c)
 | 0,c=>fun n h=>by cases h
 | f + 1, c => fun n h => by
   rw [qel] at h ⊢
   split at h
   ·rename_i h1
    rw [if_pos h1]
    unfold toO at h
    simp only at h
    split at h
    ·rename_i h2
     cases h
     have h3:=qbbc (qbf1 f) _ h2
     have h4:=(qo c).2.1
     have h5:=(qx (qcz (qel f) (qa c).1).1).2.1
     simp only;omega
    ·cases h
   ·cases h

end Go.Proofs.Ytfjbmjplnmaclaa
