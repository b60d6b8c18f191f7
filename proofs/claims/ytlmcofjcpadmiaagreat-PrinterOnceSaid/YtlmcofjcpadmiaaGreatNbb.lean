/- Texts of this proof, joined. -/
import Derived.Test.YtlmcofjcpadmiaaGreatNaz
import Derived.Test.YtlmcofjcpadmiaaGreatNba
import Derived.Test.YtlmcofjcpadmiaaGreatNan
set_option linter.unusedVariables false
set_option linter.unusedSimpArgs false

/- patterns: the size of what is read -/
namespace Go.Proofs.YtlmcofjcpadmiaaGreat
open Go Go.RowKit Go.V

theorem qb8y {c:K} {n:N} (h:qhc c = some n):sz n = 1:=by
 unfold qhc at h
 repeat' split at h
 all_goals first | (cases h;rw [qg1];rfl) | cases h
section
variable {rec:K->K×Option N} (ih:∀ c n,(rec c).2 = some n->sz n + rest (rec c).1≤rest c)
include ih
theorem qbb9 {c:K} {n:N} (h:(qbk rec c).2 = some n):sz n + rest (qbk rec c).1≤rest c:=by
 unfold qbk at h ⊢
 split at h
 ·rename_i h1
  rw [if_pos h1]
  have:=qbb (qm7 h)
  have:=qb8y h
  simp only;omega
 ·rename_i h1
  rw [if_neg h1]
  split at h
  ·rename_i h2
   rw [if_pos h2]
   split at h
   ·rename_i h3
    rw [if_pos h3]
    have hp:=qbb (c:=(qb c).1) (by rw [qev h3];exact qdp h2)
    have h0:=(qo c).2.1
    split at h
    ·rename_i h4
     rw [if_pos h4]
     split at h
     ·rename_i h5
      rw [if_pos h5]
      have h6:=ih _ _ h
      have h7:=(qe (rec (qg (qb c).1)).1 [41]).2.1
      have h8:=(qba (qh (rec (qg (qb c).1)).1 [41]).1).2.1
      simp only at h6 ⊢;omega
     ·cases h
    ·cases h
   ·cases h
  ·cases h
theorem qbaf:∀ (f:Nat) (c:K) (acc l:List N),(qew rec f c acc).2 = some l->szs l + rest (qew rec f c acc).1≤szs acc + rest c
 | 0,c,acc,l=>fun h=>by cases h
 | f + 1, c, acc, l => fun h => by
   rw [qew] at h ⊢
   split at h
   ·rename_i h1
    rw [if_pos h1]
    split at h
    ·rename_i h2
     rw [if_pos h2]
     obtain ⟨n,hn⟩:=Option.isSome_iff_exists.1 h2
     have h3:=qbaf f _ _ _ h
     have h4:=qbb9 ih hn
     rw [qfv,hn] at h3
     simp only [Option.getD_some,szs] at h3
     rw [hn]
     simp only [Option.getD_some]
     omega
    ·cases h
   ·rename_i h1
    rw [if_neg h1]
    cases h
    exact Nat.le_refl _
end
theorem qccj:∀ (f:Nat) (c:K) (n:N),(qb6 f c).2 = some n->sz n + rest (qb6 f c).1≤rest c
 | 0,_,_=>fun h=>by cases h
 | f + 1, c, n => fun h => by
   rw [qb6] at h ⊢
   have h0:=(qo c).2.1
   split at h
   ·rename_i h1
    rw [if_pos h1]
    split at h
    ·rename_i h2
     rw [if_pos h2]
     have hr:=qbb (c:=(qb c).1) (by omega)
     obtain ⟨l,hl,rfl⟩:=Option.map_eq_some_iff.1 h
     have h3:=qbaf (qccj f) _ _ _ _ hl
     have h4:=(qba (qew (qb6 f) (rest (qb c).1 + 1) (qg (qb c).1) []).1).2.1
     rw [qg1]
     simp only [N.kids,szs] at h3 ⊢
     omega
    ·rename_i h2
     rw [if_neg h2]
     have h3:=qbb9 (qccj f) h
     have h4:=(qba (qbk (qb6 f) (qb c).1).1).2.1
     simp only
     omega
   ·cases h
set_option maxRecDepth 4000

theorem q3s {f:Nat} (ih:∀ c,c.good->rest c < f->qb7 Tryz.prog 58 (curE c) (curE (qfo f c).1) [.ptr 0 0] (resP (qfo f c).2)) (c:K) (hg:c.good) (hr:rest c < f + 1) :
 qb7 Tryz.prog 58 (curE c) (curE (qfo (f + 1) c).1) [.ptr 0 0] (resP (qfo (f + 1) c).2):=by
 have hm:=qi9 f
 have g1:(qb c).1.good:=(qo c).1 hg
 have hr1:rest (qb c).1≤f:=by have:=(qo c).2.1;omega
 have ho:=qbkr hm ih _ g1 hr1
 have g2:=(qri hm (qb c).1).1 g1
 refine qq c0dd 1 (by simp) (by simp) ?_
 rw [qfo]
 generalize qc8 (qfo f) (qb c).1 = r at *
 obtain ⟨d,n,ok⟩:=r
 simp only [toO] at ho g2 ⊢
 by_cases hk:(qb c).2 = true
 ·rw [if_pos hk]
  cases ok with
  | false =>
    repeat' (first | refine vs_ ?_ | ((first | refine vr_ ?_ | fail)<;>(try simp only [hk,go_sem,↓reduceIte])) | ((first | (refine cs_ ?_ ?_<;>intro hc) | refine cj_ ?_ | fail | refine qiq ?_ | refine ql7 ho rfl ?_ | refine qfx g2.2.2 ?_)<;>(try refine ev_ ?_)) | with_reducible exact ti_)
    all_goals first | (rw [qed];done) | (rw [qed];rfl) | (rw [qed];exact ⟨rfl,rfl⟩)
  | true =>
    repeat' (first | refine vs_ ?_ | ((first | refine vr_ ?_ | fail)<;>(try simp only [hk,go_sem,↓reduceIte])) | ((first | (refine cs_ ?_ ?_<;>intro hc) | refine cj_ ?_ | fail | refine qiq ?_ | refine ql7 ho rfl ?_ | refine qfx g2.2.2 ?_)<;>(try refine ev_ ?_)) | with_reducible exact ti_)
    all_goals first | rfl | exact ⟨rfl,rfl⟩
 ·rw [if_neg hk]
  repeat' (first | refine vs_ ?_ | ((first | refine vr_ ?_ | fail)<;>(try simp only [hk,go_sem,↓reduceIte])) | ((first | (refine cs_ ?_ ?_<;>intro hc) | refine cj_ ?_ | fail | refine qiq ?_)<;>(try refine ev_ ?_)) | with_reducible exact ti_)
  all_goals first | (rw [qed];done) | (rw [qed];rfl) | (rw [qed];exact ⟨rfl,rfl⟩)
theorem qcju (f:Nat):∀ c:K,c.good->rest c < f->qb7 Tryz.prog 58 (curE c) (curE (qfo f c).1) [.ptr 0 0] (resP (qfo f c).2):=by
 induction f with
 | zero=>exact fun c _ h=>absurd h (by omega)
 | succ f ih=>exact q3s ih

/-! The size of what is read. -/
theorem qkj {k p m:Int} {t:List UInt8} {l:List N}:sz (.mk k p m t l) = szs l + 1:=by rw [qg1];rfl
theorem qbh8 {c:K} {n:N} (h:qgm c = some n):sz n = 1:=by
 unfold qgm qgr at h
 repeat' split at h
 all_goals first | (cases h;rw [qg1];rfl) | cases h
def SzO (c:K) (r:K×Option N):Prop:=∀ n,r.2 = some n->sz n + 1 + 2 * rest r.1≤2 * rest c
def SzB (c:K) (r:R3):Prop:=r.2.2 = true->sz r.2.1 + 1 + 2 * rest r.1≤2 * rest c
theorem qgb {c:K} {r:K×Option N} (h:SzO c r) (hs:r.2.isSome = true):sz (r.2.getD N0) + 1 + 2 * rest r.1≤2 * rest c:=by
 obtain ⟨n,hn⟩:=Option.isSome_iff_exists.1 hs
 have:=h n hn
 rw [hn]
 exact this
section
variable {rec:K->K×Option N} (ih:∀ c,SzO c (rec c))
include ih
theorem q69 (c:K):SzO c (qu rec c):=by
 intro n h
 unfold qu at h ⊢
 split at h
 ·rename_i h1
  rw [if_pos h1]
  have:=qbb (qoi h1)
  have:=qbh8 h
  simp only;omega
 ·rename_i h1
  rw [if_neg h1]
  split at h
  ·rename_i h2
   rw [if_pos h2]
   split at h
   ·rename_i h3
    rw [if_pos h3]
    have hp:=qbb (c:=(qb c).1) (by rw [qev h3];exact qdp h2)
    have h0:=(qo c).2.1
    split at h
    ·rename_i h4
     rw [if_pos h4]
     split at h
     ·rename_i h5
      rw [if_pos h5]
      have h6:=ih _ _ h
      have h7:=(qe (rec (qg (qb c).1)).1 [41]).2.1
      have h8:=(qba (qh (rec (qg (qb c).1)).1 [41]).1).2.1
      simp only at h6 ⊢;omega
     ·cases h
    ·cases h
   ·cases h
  ·cases h
theorem q4h:∀ (f:Nat) (c d:K) (n:N),sz n + 1 + 2 * rest d≤2 * rest c->SzB c (qdm rec f d n)
 | 0,c,d,n=>fun h0 h=>by cases h
 | f + 1, c, d, n => fun h0 h => by
   rw [qdm] at h ⊢
   split at h
   ·rename_i h1
    rw [if_pos h1]
    split at h
    ·rename_i h2
     rw [if_pos h2]
     have h3:=qgb (q69 ih d) h2
     refine q4h f c _ _ ?_ h
     rw [appN,qkj]
     simp only [szs];omega
    ·cases h
   ·rename_i h1
    rw [if_neg h1]
    exact h0
theorem qbxw (c:K):SzB c (qe1 rec c):=by
 intro h
 unfold qe1 at h ⊢
 split at h
 ·rename_i h1
  rw [if_pos h1]
  exact q4h ih _ _ _ _ (qgb (q69 ih c) h1) h
 ·cases h
theorem qya (x:List UInt8):∀ (f:Nat) (c:K),SzB c (qb0 rec x f c)
 | 0,c=>fun h=>by cases h
 | f + 1, c => fun h => by
   rw [qb0] at h ⊢
   split at h
   ·rename_i h1
    rw [if_pos h1]
    have h2:=qya x f (qg c) h
    have h3:=qbb (c:=c) (by omega)
    simp only
    rw [lamN,qkj]
    simp only [szs];omega
   ·rename_i h1
    rw [if_neg h1]
    split at h
    ·rename_i h2
     rw [if_pos h2]
     have h3:=qgb (ih (qh c x).1) h
     have h4:=(qe c x).2.1
     simp only [ofO];omega
    ·cases h
theorem q6a (c:K):SzO c (qbm rec c):=by
 intro n h
 unfold qbm at h ⊢
 split at h
 ·rename_i h1
  rw [if_pos h1]
  have h2:=q1v h1
  split at h
  ·rename_i h3
   rw [if_pos h3]
   obtain ⟨m,hm,rfl⟩:=Option.map_eq_some_iff.1 h
   have h4:=q9c hm
   have h5:=qcv h3
   have h6:=(qmj (rest (qf (kindK c 1).1 [58,58]).1 + 2) (qf (kindK c 1).1 [58,58]).1).2.1
   rw [qm9,qkj]
   simp only [szs];omega
  ·rename_i h3
   rw [if_neg h3]
   obtain ⟨m,hm,rfl⟩:=Option.map_eq_some_iff.1 h
   unfold toO at hm
   simp only at hm
   split at hm
   ·rename_i h4
    cases hm
    have h5:=qya ih _ _ _ h4
    rw [qm9,qkj]
    simp only [szs];omega
   ·cases hm
 ·cases h
omit ih in
theorem q14 {rd:K->R3} (hd:∀ c,SzB c (rd c)):∀ (f:Nat) (c d:K) (acc:List N),szs acc + 2 * rest d≤2 * rest c->(qbn rd f d acc).2.2 = true->szs (qbn rd f d acc).2.1 + 2 * rest (qbn rd f d acc).1≤2 * rest c
 | 0,c,d,acc=>fun h0 h=>by cases h
 | f + 1, c, d, acc => fun h0 h => by
   rw [qbn] at h ⊢
   split at h
   ·rename_i h1
    rw [if_pos h1]
    have h2:=hd d h1
    have h3:=(qm (rd d).1 [59]).2.1
    split at h
    ·rename_i h4
     rw [if_pos h4]
     refine q14 hd f c _ _ ?_ h
     rw [qfv]
     simp only [szs];omega
    ·rename_i h4
     rw [if_neg h4]
     have h5:=(qe (qf (rd d).1 [59]).1 [125]).2.1
     simp only
     rw [qfv]
     simp only [szs];omega
   ·cases h
omit ih in
theorem q61 {rd:K->R3} (hd:∀ c,SzB c (rd c)) (c:K) (h:(q8 rd c).2.2 = true):szs (q8 rd c).2.1 + 2 * rest (q8 rd c).1≤2 * rest c:=by
 unfold q8 at h ⊢
 split at h
 ·rename_i h1
  rw [if_pos h1]
  have h2:=(qe c [123]).2.1
  exact q14 hd _ _ _ _ (by simp only [szs];omega) h
 ·cases h
theorem qbzf (p:Int) (c:K):SzB c (qgo rec p c):=by
 intro h
 unfold qgo letB letC at h ⊢
 have hl:=q61 (rd:=fun c=>ofO (qbm rec c)) (fun c hs=>qgb (q6a ih c) hs) c
 generalize q8 (fun c=>ofO (qbm rec c)) c = L at *
 split at h
 ·rename_i h1
  rw [if_pos h1]
  have hl:=hl h1
  split at h
  ·rename_i h2
   rw [if_pos h2]
   have h3:=qgb (ih (qh L.1 [105,110]).1) h
   have h4:=qhn h2
   simp only
   rw [qkj,qfv]
   simp only [szs];omega
  ·cases h
 ·cases h
theorem qbrw (c:K):SzB c (qdv rec c):=by
 intro h
 unfold qdv altB altC at h ⊢
 have hp:=qccj (rest c + 2) c
 generalize qb6 (rest c + 2) c = r at *
 split at h
 ·rename_i h1
  rw [if_pos h1]
  obtain ⟨n,hn⟩:=Option.isSome_iff_exists.1 h1
  have hp:=hp n hn
  split at h
  ·rename_i h2
   rw [if_pos h2]
   have h3:=qgb (ih (qh r.1 [45,62]).1) h
   have h4:=qhn h2
   simp only
   rw [altN,qkj,hn]
   simp only [szs,Option.getD_some];omega
  ·cases h
 ·cases h
theorem qbi1 (p:Int) (c:K):SzB c (qeh rec p c):=by
 intro h
 unfold qeh qy1 q02 at h ⊢
 split at h
 ·rename_i h1
  rw [if_pos h1]
  have h2:=qgb (ih c) h1
  split at h
  ·rename_i h3
   rw [if_pos h3]
   have h4:=q61 (qbrw ih) _ h
   have h5:=qhn h3
   simp only
   rw [qkj]
   simp only [szs];omega
  ·cases h
 ·cases h
theorem qbas (p:Int):∀ (l:List (List UInt8)) (c d:K) (acc:List N),szs acc + 2 * rest d≤2 * rest c->(qda rec p l d acc).2.2 = true->sz (qda rec p l d acc).2.1 + 2 * rest (qda rec p l d acc).1≤2 * rest c + 1
 | [],c,d,acc=>fun h0 h=>by rw [qda,qkj];simp only;omega
 | w :: r, c, d, acc => fun h0 h => by
   rw [qda] at h ⊢
   split at h
   ·rename_i h1
    rw [if_pos h1]
    have h2:=(qlt d w).2.1
    split at h
    ·rename_i h3
     rw [if_pos h3]
     have h4:=qgb (ih (ifsK d w).1) h3
     refine qbas p r c _ _ ?_ h
     rw [qfv]
     simp only [szs];omega
    ·cases h
   ·cases h
theorem qbmw (c:K):SzB c (qc8 rec c):=by
 intro h
 unfold qc8 at h ⊢
 split at h
 ·rename_i h1
  rw [if_pos h1]
  have h0:=qcv h1
  split at h
  ·rename_i h2
   rw [if_pos h2]
   have:=qya ih _ _ _ h
   omega
  ·cases h
 ·rename_i h1
  rw [if_neg h1]
  split at h
  ·rename_i h2
   rw [if_pos h2]
   have h0:=qcv h2
   have:=qbzf ih _ _ h
   omega
  ·rename_i h2
   rw [if_neg h2]
   split at h
   ·rename_i h3
    rw [if_pos h3]
    have h0:=qcv h3
    have:=qbi1 ih _ _ h
    omega
   ·rename_i h3
    rw [if_neg h3]
    split at h
    ·rename_i h4
     rw [if_pos h4]
     have h0:=qcv h4
     have:=qbas ih _ _ _ _ _ (by simp only [szs];exact Nat.le_of_eq (Nat.zero_add _)) h
     omega
    ·rename_i h4
     rw [if_neg h4]
     exact qbxw ih c h
end
theorem qbp9:∀ (f:Nat) (c:K),SzO c (qfo f c)
 | 0,c=>fun n h=>by cases h
 | f + 1, c => fun n h => by
   rw [qfo] at h ⊢
   split at h
   ·rename_i h1
    rw [if_pos h1]
    unfold toO at h
    simp only at h
    split at h
    ·rename_i h2
     cases h
     have h3:=qbmw (qbp9 f) _ h2
     have h4:=(qo c).2.1
     have h5:=(qba (qc8 (qfo f) (qb c).1).1).2.1
     simp only;omega
    ·cases h
   ·cases h


def bare (t:T):T:=⟨t.kind,0,t.num,t.text⟩
def remT (c:K):List T:=c.l.drop c.at'
def NS (a b:N):Prop:=qk a = qk b
section
variable {δ:Int} {tl:List T} {c c':K}
theorem qbha (c:K):(remT c).length = rest c:=by simp [remT,rest]
theorem qz3 {t:T} {r:List T} (h:remT c = t :: r) (he:c.err = 0):qp c = t∧c.at' < c.l.length:=by
 have hl:c.at' < c.l.length:=by
  have:=congrArg List.length h
  simp [remT] at this;omega
 have h1:c.l.getD c.at' T0 = t:=by
  have:=qbk5 hl
  unfold remT at h
  rw [h] at this
  exact (List.cons.inj this).1.symm
 rw [qm5 he (by omega)]
 exact ⟨h1,hl⟩
theorem qbh1 (h:remT c = []) (he:c.err = 0):qp c = ⟨0,c.ep,0,[]⟩:=by
 refine qt4 he ?_
 have:=congrArg List.length h
 simp [remT] at this;omega
theorem qbbt {t:T} {r:List T} (h:remT c = t :: r) (he:c.err = 0):remT (qg c) = r∧(qg c).err = 0∧(qg c).nest = c.nest:=by
 obtain ⟨_,hl⟩:=qz3 h he
 rw [qxr he (by omega)]
 refine ⟨?_,he,rfl⟩
 have:=qbk5 hl
 unfold remT at h
 rw [h] at this
 exact (List.cons.inj this).2.symm
theorem qs6 {t t':T} (h:bare t = bare t'):t.kind = t'.kind:=show (bare t).kind = (bare t').kind from congrArg T.kind h
theorem qbk8 {t t':T} (h:bare t = bare t'):t.num = t'.num:=show (bare t).num = (bare t').num from congrArg T.num h
theorem qsx {t t':T} (h:bare t = bare t'):t.text = t'.text:=show (bare t).text = (bare t').text from congrArg T.text h
theorem qbcn {t t':T} (h:bare t = bare t') (x:List UInt8):qcg t x = qcg t' x:=by unfold qcg;rw [qs6 h,qsx h]
theorem q9i {t t':T} (h:bare t = bare t') (x:List (List UInt8)):qcl t x = qcl t' x:=by unfold qcl;rw [qs6 h,qsx h]
end
end Go.Proofs.YtlmcofjcpadmiaaGreat
