/- Texts of this proof, joined. -/
import Derived.Test.YtlmcofjcpadmiaaGreatDaz
import Derived.Test.YtlmcofjcpadmiaaGreatDba
import Derived.Test.YtlmcofjcpadmiaaGreatDao
set_option linter.unusedVariables false
set_option linter.unusedSimpArgs false

/- patterns: the size of what is read -/
namespace Go.Proofs.YtlmcofjcpadmiaaGreat
open Go Go.RowKit Go.V

theorem qbkj {c:K} {n:N} (h:qjs c = some n):sz n = 1:=by
 unfold qjs at h
 repeat' split at h
 all_goals first | (cases h;rw [qeh];rfl) | cases h
section
variable {rec:K->K×Option N} (ih:∀ c n,(rec c).2 = some n->sz n + rest (rec c).1≤rest c)
include ih
theorem q49 {c:K} {n:N} (h:(qbp rec c).2 = some n):sz n + rest (qbp rec c).1≤rest c:=by
 unfold qbp at h ⊢
 split at h
 ·rename_i h1
  rw [if_pos h1]
  have:=qbd (qvr h)
  have:=qbkj h
  simp only;omega
 ·rename_i h1
  rw [if_neg h1]
  split at h
  ·rename_i h2
   rw [if_pos h2]
   split at h
   ·rename_i h3
    rw [if_pos h3]
    have hp:=qbd (c:=(qd c).1) (by rw [qd0 h3];exact qdy h2)
    have h0:=(q7 c).2.1
    split at h
    ·rename_i h4
     rw [if_pos h4]
     split at h
     ·rename_i h5
      rw [if_pos h5]
      have h6:=ih _ _ h
      have h7:=(ql (rec (qi (qd c).1)).1 [41]).2.1
      have h8:=(qb3 (qr (rec (qi (qd c).1)).1 [41]).1).2.1
      simp only at h6 ⊢;omega
     ·cases h
    ·cases h
   ·cases h
  ·cases h
theorem q3e:∀ (f:Nat) (c:K) (acc l:List N),(qhr rec f c acc).2 = some l->szs l + rest (qhr rec f c acc).1≤szs acc + rest c
 | 0,c,acc,l=>fun h=>by cases h
 | f + 1, c, acc, l => fun h => by
   rw [qhr] at h ⊢
   split at h
   ·rename_i h1
    rw [if_pos h1]
    split at h
    ·rename_i h2
     rw [if_pos h2]
     obtain ⟨n,hn⟩:=Option.isSome_iff_exists.1 h2
     have h3:=q3e f _ _ _ h
     have h4:=q49 ih hn
     rw [qd2,hn] at h3
     simp only [Option.getD_some,szs] at h3
     rw [hn]
     simp only [Option.getD_some]
     omega
    ·cases h
   ·rename_i h1
    rw [if_neg h1]
    cases h
    exact Nat.le_refl _
end
theorem qb2h:∀ (f:Nat) (c:K) (n:N),(qcg f c).2 = some n->sz n + rest (qcg f c).1≤rest c
 | 0,_,_=>fun h=>by cases h
 | f + 1, c, n => fun h => by
   rw [qcg] at h ⊢
   have h0:=(q7 c).2.1
   split at h
   ·rename_i h1
    rw [if_pos h1]
    split at h
    ·rename_i h2
     rw [if_pos h2]
     have hr:=qbd (c:=(qd c).1) (by omega)
     obtain ⟨l,hl,rfl⟩:=Option.map_eq_some_iff.1 h
     have h3:=q3e (qb2h f) _ _ _ _ hl
     have h4:=(qb3 (qhr (qcg f) (rest (qd c).1 + 1) (qi (qd c).1) []).1).2.1
     rw [qeh]
     simp only [N.kids,szs] at h3 ⊢
     omega
    ·rename_i h2
     rw [if_neg h2]
     have h3:=q49 (qb2h f) h
     have h4:=(qb3 (qbp (qcg f) (qd c).1).1).2.1
     simp only
     omega
   ·cases h
set_option maxRecDepth 4000

theorem qyf {f:Nat} (ih:∀ c,c.good->rest c < f->qbt Tryz.prog 58 (curE c) (curE (qe6 f c).1) [.ptr 0 0] (resP (qe6 f c).2)) (c:K) (hg:c.good) (hr:rest c < f + 1) :
 qbt Tryz.prog 58 (curE c) (curE (qe6 (f + 1) c).1) [.ptr 0 0] (resP (qe6 (f + 1) c).2):=by
 have hm:=qiq f
 have g1:(qd c).1.good:=(q7 c).1 hg
 have hr1:rest (qd c).1≤f:=by have:=(q7 c).2.1;omega
 have ho:=qbb9 hm ih _ g1 hr1
 have g2:=(qpr hm (qd c).1).1 g1
 refine qj c0de 1 (by simp) (by simp) ?_
 rw [qe6]
 generalize qen (qe6 f) (qd c).1 = r at *
 obtain ⟨d,n,ok⟩:=r
 simp only [toO] at ho g2 ⊢
 by_cases hk:(qd c).2 = true
 ·rw [if_pos hk]
  cases ok with
  | false =>
    repeat' (first | refine vs_ ?_ | ((first | refine vr_ ?_ | fail)<;>(try simp only [hk,go_sem,↓reduceIte])) | ((first | (refine cs_ ?_ ?_<;>intro hc) | refine cj_ ?_ | fail | refine qg2 ?_ | refine qjr ho rfl ?_ | refine qet g2.2.2 ?_)<;>(try refine ev_ ?_)) | with_reducible exact ti_)
    all_goals first | (rw [qdf];done) | (rw [qdf];rfl) | (rw [qdf];exact ⟨rfl,rfl⟩)
  | true =>
    repeat' (first | refine vs_ ?_ | ((first | refine vr_ ?_ | fail)<;>(try simp only [hk,go_sem,↓reduceIte])) | ((first | (refine cs_ ?_ ?_<;>intro hc) | refine cj_ ?_ | fail | refine qg2 ?_ | refine qjr ho rfl ?_ | refine qet g2.2.2 ?_)<;>(try refine ev_ ?_)) | with_reducible exact ti_)
    all_goals first | rfl | exact ⟨rfl,rfl⟩
 ·rw [if_neg hk]
  repeat' (first | refine vs_ ?_ | ((first | refine vr_ ?_ | fail)<;>(try simp only [hk,go_sem,↓reduceIte])) | ((first | (refine cs_ ?_ ?_<;>intro hc) | refine cj_ ?_ | fail | refine qg2 ?_)<;>(try refine ev_ ?_)) | with_reducible exact ti_)
  all_goals first | (rw [qdf];done) | (rw [qdf];rfl) | (rw [qdf];exact ⟨rfl,rfl⟩)
theorem qbhy (f:Nat):∀ c:K,c.good->rest c < f->qbt Tryz.prog 58 (curE c) (curE (qe6 f c).1) [.ptr 0 0] (resP (qe6 f c).2):=by
 induction f with
 | zero=>exact fun c _ h=>absurd h (by omega)
 | succ f ih=>exact qyf ih

/-! The size of what is read. -/
theorem qij {k p m:Int} {t:List UInt8} {l:List N}:sz (.mk k p m t l) = szs l + 1:=by rw [qeh];rfl
theorem qba4 {c:K} {n:N} (h:qh9 c = some n):sz n = 1:=by
 unfold qh9 qkc at h
 repeat' split at h
 all_goals first | (cases h;rw [qeh];rfl) | cases h
def SzO (c:K) (r:K×Option N):Prop:=∀ n,r.2 = some n->sz n + 1 + 2 * rest r.1≤2 * rest c
def SzB (c:K) (r:R3):Prop:=r.2.2 = true->sz r.2.1 + 1 + 2 * rest r.1≤2 * rest c
theorem qe4 {c:K} {r:K×Option N} (h:SzO c r) (hs:r.2.isSome = true):sz (r.2.getD N0) + 1 + 2 * rest r.1≤2 * rest c:=by
 obtain ⟨n,hn⟩:=Option.isSome_iff_exists.1 hs
 have:=h n hn
 rw [hn]
 exact this
section
variable {rec:K->K×Option N} (ih:∀ c,SzO c (rec c))
include ih
theorem qzf (c:K):SzO c (qx rec c):=by
 intro n h
 unfold qx at h ⊢
 split at h
 ·rename_i h1
  rw [if_pos h1]
  have:=qbd (qq9 h1)
  have:=qba4 h
  simp only;omega
 ·rename_i h1
  rw [if_neg h1]
  split at h
  ·rename_i h2
   rw [if_pos h2]
   split at h
   ·rename_i h3
    rw [if_pos h3]
    have hp:=qbd (c:=(qd c).1) (by rw [qd0 h3];exact qdy h2)
    have h0:=(q7 c).2.1
    split at h
    ·rename_i h4
     rw [if_pos h4]
     split at h
     ·rename_i h5
      rw [if_pos h5]
      have h6:=ih _ _ h
      have h7:=(ql (rec (qi (qd c).1)).1 [41]).2.1
      have h8:=(qb3 (qr (rec (qi (qd c).1)).1 [41]).1).2.1
      simp only at h6 ⊢;omega
     ·cases h
    ·cases h
   ·cases h
  ·cases h
theorem qzu:∀ (f:Nat) (c d:K) (n:N),sz n + 1 + 2 * rest d≤2 * rest c->SzB c (qey rec f d n)
 | 0,c,d,n=>fun h0 h=>by cases h
 | f + 1, c, d, n => fun h0 h => by
   rw [qey] at h ⊢
   split at h
   ·rename_i h1
    rw [if_pos h1]
    split at h
    ·rename_i h2
     rw [if_pos h2]
     have h3:=qe4 (qzf ih d) h2
     refine qzu f c _ _ ?_ h
     rw [appN,qij]
     simp only [szs];omega
    ·cases h
   ·rename_i h1
    rw [if_neg h1]
    exact h0
theorem qb0y (c:K):SzB c (qg7 rec c):=by
 intro h
 unfold qg7 at h ⊢
 split at h
 ·rename_i h1
  rw [if_pos h1]
  exact qzu ih _ _ _ _ (qe4 (qzf ih c) h1) h
 ·cases h
theorem qtk (x:List UInt8):∀ (f:Nat) (c:K),SzB c (qcq rec x f c)
 | 0,c=>fun h=>by cases h
 | f + 1, c => fun h => by
   rw [qcq] at h ⊢
   split at h
   ·rename_i h1
    rw [if_pos h1]
    have h2:=qtk x f (qi c) h
    have h3:=qbd (c:=c) (by omega)
    simp only
    rw [lamN,qij]
    simp only [szs];omega
   ·rename_i h1
    rw [if_neg h1]
    split at h
    ·rename_i h2
     rw [if_pos h2]
     have h3:=qe4 (ih (qr c x).1) h
     have h4:=(ql c x).2.1
     simp only [ofO];omega
    ·cases h
theorem qyx (c:K):SzO c (qb9 rec c):=by
 intro n h
 unfold qb9 at h ⊢
 split at h
 ·rename_i h1
  rw [if_pos h1]
  have h2:=qu1 h1
  split at h
  ·rename_i h3
   rw [if_pos h3]
   obtain ⟨m,hm,rfl⟩:=Option.map_eq_some_iff.1 h
   have h4:=qrt hm
   have h5:=qcr h3
   have h6:=(qhl (rest (qn (kindK c 1).1 [58,58]).1 + 2) (qn (kindK c 1).1 [58,58]).1).2.1
   rw [q1y,qij]
   simp only [szs];omega
  ·rename_i h3
   rw [if_neg h3]
   obtain ⟨m,hm,rfl⟩:=Option.map_eq_some_iff.1 h
   unfold toO at hm
   simp only at hm
   split at hm
   ·rename_i h4
    cases hm
    have h5:=qtk ih _ _ _ h4
    rw [q1y,qij]
    simp only [szs];omega
   ·cases hm
 ·cases h
omit ih in
theorem qwh {rd:K->R3} (hd:∀ c,SzB c (rd c)):∀ (f:Nat) (c d:K) (acc:List N),szs acc + 2 * rest d≤2 * rest c->(qca rd f d acc).2.2 = true->szs (qca rd f d acc).2.1 + 2 * rest (qca rd f d acc).1≤2 * rest c
 | 0,c,d,acc=>fun h0 h=>by cases h
 | f + 1, c, d, acc => fun h0 h => by
   rw [qca] at h ⊢
   split at h
   ·rename_i h1
    rw [if_pos h1]
    have h2:=hd d h1
    have h3:=(qv (rd d).1 [59]).2.1
    split at h
    ·rename_i h4
     rw [if_pos h4]
     refine qwh hd f c _ _ ?_ h
     rw [qd2]
     simp only [szs];omega
    ·rename_i h4
     rw [if_neg h4]
     have h5:=(ql (qn (rd d).1 [59]).1 [125]).2.1
     simp only
     rw [qd2]
     simp only [szs];omega
   ·cases h
omit ih in
theorem qy2 {rd:K->R3} (hd:∀ c,SzB c (rd c)) (c:K) (h:(qbe rd c).2.2 = true):szs (qbe rd c).2.1 + 2 * rest (qbe rd c).1≤2 * rest c:=by
 unfold qbe at h ⊢
 split at h
 ·rename_i h1
  rw [if_pos h1]
  have h2:=(ql c [123]).2.1
  exact qwh hd _ _ _ _ (by simp only [szs];omega) h
 ·cases h
theorem qb15 (p:Int) (c:K):SzB c (qkm rec p c):=by
 intro h
 unfold qkm letB letC at h ⊢
 have hl:=qy2 (rd:=fun c=>ofO (qb9 rec c)) (fun c hs=>qe4 (qyx ih c) hs) c
 generalize qbe (fun c=>ofO (qb9 rec c)) c = L at *
 split at h
 ·rename_i h1
  rw [if_pos h1]
  have hl:=hl h1
  split at h
  ·rename_i h2
   rw [if_pos h2]
   have h3:=qe4 (ih (qr L.1 [105,110]).1) h
   have h4:=qf9 h2
   simp only
   rw [qij,qd2]
   simp only [szs];omega
  ·cases h
 ·cases h
theorem qbj3 (c:K):SzB c (qep rec c):=by
 intro h
 unfold qep altB altC at h ⊢
 have hp:=qb2h (rest c + 2) c
 generalize qcg (rest c + 2) c = r at *
 split at h
 ·rename_i h1
  rw [if_pos h1]
  obtain ⟨n,hn⟩:=Option.isSome_iff_exists.1 h1
  have hp:=hp n hn
  split at h
  ·rename_i h2
   rw [if_pos h2]
   have h3:=qe4 (ih (qr r.1 [45,62]).1) h
   have h4:=qf9 h2
   simp only
   rw [altN,qij,hn]
   simp only [szs,Option.getD_some];omega
  ·cases h
 ·cases h
theorem qbg9 (p:Int) (c:K):SzB c (qhw rec p c):=by
 intro h
 unfold qhw q7o q9e at h ⊢
 split at h
 ·rename_i h1
  rw [if_pos h1]
  have h2:=qe4 (ih c) h1
  split at h
  ·rename_i h3
   rw [if_pos h3]
   have h4:=qy2 (qbj3 ih) _ h
   have h5:=qf9 h3
   simp only
   rw [qij]
   simp only [szs];omega
  ·cases h
 ·cases h
theorem q4y (p:Int):∀ (l:List (List UInt8)) (c d:K) (acc:List N),szs acc + 2 * rest d≤2 * rest c->(qei rec p l d acc).2.2 = true->sz (qei rec p l d acc).2.1 + 2 * rest (qei rec p l d acc).1≤2 * rest c + 1
 | [],c,d,acc=>fun h0 h=>by rw [qei,qij];simp only;omega
 | w :: r, c, d, acc => fun h0 h => by
   rw [qei] at h ⊢
   split at h
   ·rename_i h1
    rw [if_pos h1]
    have h2:=(qno d w).2.1
    split at h
    ·rename_i h3
     rw [if_pos h3]
     have h4:=qe4 (ih (ifsK d w).1) h3
     refine q4y p r c _ _ ?_ h
     rw [qd2]
     simp only [szs];omega
    ·cases h
   ·cases h
theorem qbff (c:K):SzB c (qen rec c):=by
 intro h
 unfold qen at h ⊢
 split at h
 ·rename_i h1
  rw [if_pos h1]
  have h0:=qcr h1
  split at h
  ·rename_i h2
   rw [if_pos h2]
   have:=qtk ih _ _ _ h
   omega
  ·cases h
 ·rename_i h1
  rw [if_neg h1]
  split at h
  ·rename_i h2
   rw [if_pos h2]
   have h0:=qcr h2
   have:=qb15 ih _ _ h
   omega
  ·rename_i h2
   rw [if_neg h2]
   split at h
   ·rename_i h3
    rw [if_pos h3]
    have h0:=qcr h3
    have:=qbg9 ih _ _ h
    omega
   ·rename_i h3
    rw [if_neg h3]
    split at h
    ·rename_i h4
     rw [if_pos h4]
     have h0:=qcr h4
     have:=q4y ih _ _ _ _ _ (by simp only [szs];exact Nat.le_of_eq (Nat.zero_add _)) h
     omega
    ·rename_i h4
     rw [if_neg h4]
     exact qb0y ih c h
end
theorem q4v:∀ (f:Nat) (c:K),SzO c (qe6 f c)
 | 0,c=>fun n h=>by cases h
 | f + 1, c => fun n h => by
   rw [qe6] at h ⊢
   split at h
   ·rename_i h1
    rw [if_pos h1]
    unfold toO at h
    simp only at h
    split at h
    ·rename_i h2
     cases h
     have h3:=qbff (q4v f) _ h2
     have h4:=(q7 c).2.1
     have h5:=(qb3 (qen (qe6 f) (qd c).1).1).2.1
     simp only;omega
    ·cases h
   ·cases h

def expV (s:List UInt8):N×Int×Int:=qjt (fun c=>qe6 (rest c + 2) c) s
def expK (k:Nat) (s:List UInt8):N×Int×Int:=qjt (fun c=>qe6 (rest c + k) c) s
theorem q2b (k:Nat) (hk:2≤k) (s:List UInt8) (hs:s.length≤400000):qq Tryz.prog 27 [.str s] (resV (expK k s)):=by
 have g:=qkn (qeg s).1
 have g2:(qe6 (rest (newK (lexV s).1) + k) (newK (lexV s).1)).1.good:=(qiq _ _).1 g
 have hsz:sz ((qe6 (rest (newK (lexV s).1) + k) (newK (lexV s).1)).2.getD N0)≤1000000:=by
  cases ho:(qe6 (rest (newK (lexV s).1) + k) (newK (lexV s).1)).2 with
  | none=>rw [Option.getD_none,qeh];simp [N0,N.kids,szs]
  | some n =>
    have h1:=q4v _ _ _ ho
    have h2:=qhh (lexV s).1
    have h3:=(qeg s).2
    have h4:rest (newK (lexV s).1) = (qfm (lexV s).1).length:=rfl
    simp only [Option.getD_some]
    omega
 have hdp:=qlq hsz
 refine qg c0df (by simp) (by simp only [go_sem]) (by simp only [go_sem]) fun hw=>?_
 repeat' (first | refine vs_ ?_ | ((first | refine vr_ ?_ | refine qa (qfb s) fun _=>?_ | refine qns (qnl _ (qeg s).1) (qp _ _) (by simp only [go_sem]) ?_ | refine qh7 1 (qbhy (rest (newK (lexV s).1) + k) _ g (by omega)) (by rfl) (qp _ _) (qp _ _) (by rfl) (qsx _ _) (by rfl) fun _=>?_ | refine qh7 1 (qla _ g2.ok) (by rfl) (qp _ _) (qp _ _) (by rfl) (by rfl) (by rfl) fun _=>?_ | refine qa (qio (qi0 _) (by rw [hdp])) fun _=>?_ | refine qe (qfb s) ?_ | refine qe (qio (qi0 _) (by rw [hdp])) ?_ | (refine cs_ ?_ ?_<;>intro hc) | refine cj_ ?_ | fail)<;>(try refine ev_ ?_)) | with_reducible exact ti_)
 all_goals (try rw [qdf])
 all_goals unfold expK qjt qqz
 all_goals (repeat' split)
 all_goals first | omega | rfl | (exfalso;omega) | simp_all [go_sem]
theorem q6o (s:List UInt8) (hs:s.length≤400000):qq Tryz.prog 27 [.str s] (resV (expV s)):=q2b 2 (by decide) s hs

def bare (t:T):T:=⟨t.kind,0,t.num,t.text⟩
def remT (c:K):List T:=c.l.drop c.at'
def Stop (tl:List T):Prop:=tl = []∨∃ t,tl = [t]∧t.kind = 5∧(t.text = [41]∨t.text = [125]∨t.text = [59])
def NS (a b:N):Prop:=qo a = qo b
section
variable {δ:Int} {tl:List T} {c c':K}
theorem qbck (c:K):(remT c).length = rest c:=by simp [remT,rest]
theorem qu5 {t:T} {r:List T} (h:remT c = t :: r) (he:c.err = 0):qs c = t∧c.at' < c.l.length:=by
 have hl:c.at' < c.l.length:=by
  have:=congrArg List.length h
  simp [remT] at this;omega
 have h1:c.l.getD c.at' T0 = t:=by
  have:=qbrw hl
  unfold remT at h
  rw [h] at this
  exact (List.cons.inj this).1.symm
 rw [qsb he (by omega)]
 exact ⟨h1,hl⟩
theorem q96 (h:remT c = []) (he:c.err = 0):qs c = ⟨0,c.ep,0,[]⟩:=by
 refine qoc he ?_
 have:=congrArg List.length h
 simp [remT] at this;omega
theorem q3x {t:T} {r:List T} (h:remT c = t :: r) (he:c.err = 0):remT (qi c) = r∧(qi c).err = 0∧(qi c).nest = c.nest:=by
 obtain ⟨_,hl⟩:=qu5 h he
 rw [qss he (by omega)]
 refine ⟨?_,he,rfl⟩
 have:=qbrw hl
 unfold remT at h
 rw [h] at this
 exact (List.cons.inj this).2.symm
theorem qqc {t t':T} (h:bare t = bare t'):t.kind = t'.kind:=show (bare t).kind = (bare t').kind from congrArg T.kind h
theorem qbbw {t t':T} (h:bare t = bare t'):t.num = t'.num:=show (bare t).num = (bare t').num from congrArg T.num h
theorem qop {t t':T} (h:bare t = bare t'):t.text = t'.text:=show (bare t).text = (bare t').text from congrArg T.text h
theorem q3k {t t':T} (h:bare t = bare t') (x:List UInt8):qce t x = qce t' x:=by unfold qce;rw [qqc h,qop h]
theorem q1z {t t':T} (h:bare t = bare t') (x:List (List UInt8)):qcd t x = qcd t' x:=by unfold qcd;rw [qqc h,qop h]
end
end Go.Proofs.YtlmcofjcpadmiaaGreat
