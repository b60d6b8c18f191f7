/- Texts of this proof, joined. -/
import Derived.Test.YtlahgbhhejkgbaaTbg
import Derived.Test.YtlahgbhhejkgbaaTaz
import Derived.Test.YtlahgbhhejkgbaaTbh
import Derived.Test.YtlahgbhhejkgbaaTbc
set_option linter.unusedVariables false
set_option linter.unusedSimpArgs false

/- the reference's reader of terms: its walk -/
set_option maxRecDepth 4000
namespace Go.Proofs.Ytlahgbhhejkgbaa
open Go Go.RowKit Go.V

theorem qbeg {b k:Int} (h0:97≤b) (h1:b≤122) (h2:0≤k) (h3:k≤177372539170284150):IntKind.i64.wrap (IntKind.i64.wrap (26 * k) + (b - 97)) = 26 * k + (b - 97):=by
 rw [qt (z:=26 * k) (by omega) (by omega),qt (by omega) (by omega)]
theorem qbhw {b:Int} (h0:97≤b) (h1:b≤122):IntKind.i64.wrap (b - 97) = b - 97:=qt (by omega) (by omega)
theorem qgi (s:List UInt8):qg Try.prog 129 [.str s] (.int .i64 (numW s)):=by
 refine qd c0cl (by simp) (by simp only [go_sem]) rfl fun hw=>?_
 have hl:s.length≤maxLen:=hw.1
 have hr:=qc0 (s.drop 1)
 by_cases h0:s = []
 ·subst h0
  repeat' (first | refine vs_ ?_ | ((first | refine vr_ ?_ | (refine cs_ ?_ ?_<;>intro hc) | refine cj_ ?_ | simp (disch:=omega) only [encs_getN,qb])<;>(try refine ev_ ?_)) | with_reducible exact ti_)
  all_goals first | rfl | (exact absurd rfl (by assumption))
 have hlp:=qer h0
 repeat' (first | refine vs_ ?_ | ((first | refine vr_ ?_ | fail)<;>(try simp only [h0,decide_false,go_sem,↓reduceIte])) | ((first | simp (disch:=omega) only [qz1] | simp (disch:=omega) only [qbeg] | simp (disch:=omega) only [qbhw] | (refine cs_ ?_ ?_<;>intro hc) | refine cj_ ?_ | simp (disch:=omega) only [encs_getN,qb] | refine qa (qdn _) fun _=>?_ | refine qa (qgm _) fun _=>?_)<;>(try refine ev_ ?_)) | with_reducible exact ti_)
 all_goals try simp only [Int.mul_zero,Int.zero_add] at *
 all_goals (simp only [numW,numG, *,if_true,if_false,↓reduceIte,eq_self])
theorem qmt:∀ (s:List UInt8) (i:Nat),i < qbh s->i < s.length∧(s.getD i 0).toNat≠32∧(s.getD i 0).toNat≠40∧(s.getD i 0).toNat≠41
 | [],i,h=>by rw [qtw] at h;omega
 | b :: s, i, h => by
   rw [qdj] at h
   split at h
   ·omega
   ·rename_i hb
    cases i with
    | zero =>
      have e:(b :: s).getD 0 0 = b:=rfl
      rw [e]
      refine ⟨by simp,fun q=>hb ?_,fun q=>hb ?_,fun q=>hb ?_⟩
      ·rw [show b = 32 from UInt8.toNat_inj.1 q];rfl
      ·rw [show b = 40 from UInt8.toNat_inj.1 q];rfl
      ·rw [show b = 41 from UInt8.toNat_inj.1 q];rfl
    | succ i =>
      have:=qmt s i (by omega)
      exact ⟨by simp;omega,this.2⟩
theorem ql8:∀ (s:List UInt8),qbh s < s.length->(s.getD (qbh s) 0).toNat = 32∨(s.getD (qbh s) 0).toNat = 40∨(s.getD (qbh s) 0).toNat = 41
 | [],h=>by simp at h
 | b :: s, h => by
   rw [qdj] at h ⊢
   by_cases hb:([32,40,41]:List UInt8).contains b = true
   ·rw [if_pos hb]
    have e:(b :: s).getD 0 0 = b:=rfl
    rw [e]
    have:b = 32∨b = 40∨b = 41:=by simpa using hb
    rcases this with rfl | rfl | rfl
    ·exact .inl rfl
    ·exact .inr (.inl rfl)
    ·exact .inr (.inr rfl)
   ·rw [if_neg hb] at h ⊢
    exact ql8 s (by simp at h;omega)
theorem qjp (s:List UInt8):qg Try.prog 119 [.str s] (.int .i64 (qbh s)):=by
 refine qd c0cm (by simp) (by simp only [go_sem]) rfl fun hw=>?_
 have hl:s.length≤maxLen:=hw.1
 have hle:=qgw s
 repeat' (first | refine vs_ ?_ | ((first | refine vr_ ?_ | (refine cs_ ?_ ?_<;>intro hc) | refine cj_ ?_ | simp (disch:=omega) only [encs_getN,qb])<;>(try refine ev_ ?_)) | with_reducible exact ti_)
 refine qw (S:=Nat) (fun i=>i≤qbh s) (fun i=>(⟨[(0,.str s),(3,.int .i64 i)],[]⟩,[])) (fun i=>qbh s - i) ?_ fun i hi=>?_
 ·refine qm 0 [] (Nat.zero_le _) rfl (by simp) ?_ ?_ ?_<;>(try refine ev_ ?_)<;>(try with_reducible exact ti_)<;>(try simp (disch:=omega) only [qb,and_true,true_and])
 ·by_cases hlt:i < qbh s
  ·obtain ⟨g1,g2,g3,g4⟩:=qmt s i hlt
   repeat' (first | refine vs_ ?_ | ((first | refine vr_ ?_ | refine qb fun _=>?_ | (refine cs_ ?_ ?_<;>intro hc) | refine cj_ ?_ | simp (disch:=omega) only [encs_getN,qb])<;>(try refine ev_ ?_)) | with_reducible exact ti_)
   all_goals try (exfalso;omega)
   refine qm (i + 1) [] ⟨by omega,by omega⟩ rfl (by simp) ?_ ?_ ?_<;>(try refine ev_ ?_)<;>(try with_reducible exact ti_)<;>(try simp (disch:=omega) only [qb,and_true,true_and])
  ·have hie:i = qbh s:=by omega
   subst hie
   by_cases hlt:qbh s < s.length
   ·have g:=ql8 s hlt
    repeat' (first | refine vs_ ?_ | ((first | refine vr_ ?_ | refine qb fun _=>?_ | (refine cs_ ?_ ?_<;>intro hc) | refine cj_ ?_ | simp (disch:=omega) only [encs_getN,qb])<;>(try refine ev_ ?_)) | with_reducible exact ti_)
    all_goals (exfalso;omega)
   ·repeat' (first | refine vs_ ?_ | ((first | refine vr_ ?_ | refine qb fun _=>?_ | (refine cs_ ?_ ?_<;>intro hc) | refine cj_ ?_ | simp (disch:=omega) only [encs_getN,qb])<;>(try refine ev_ ?_)) | with_reducible exact ti_)
    all_goals (exfalso;omega)
theorem qug (v:Int):qg Try.prog 130 [.int .i64 v] (encY (.mk [] v [])):=by
 refine qd c0cn (by simp) (by simp only [go_sem]) (qbq 0 _) fun hw=>?_
 repeat' (first | refine vs_ ?_ | ((first | refine vr_ ?_ | (refine cs_ ?_ ?_<;>intro hc) | refine cj_ ?_ | fail)<;>(try refine ev_ ?_)) | with_reducible exact ti_)
 all_goals rfl
theorem qjw (s:List UInt8):qg Try.prog 120 [.str s] (encY (qbr s)):=by
 refine qd c0co (by simp) (by simp only [go_sem]) (qbq 0 _) fun hw=>?_
 have hr:=qc0 (s.drop 1)
 cases s with
 | nil =>
   repeat' (first | refine vs_ ?_ | ((first | refine vr_ ?_ | refine qa (qgi _) fun _=>?_ | refine qa (qug _) fun _=>?_ | refine qa (qdn _) fun _=>?_ | (refine cs_ ?_ ?_<;>intro hc) | refine cj_ ?_ | simp (disch:=omega) only [encs_getN,qb])<;>(try refine ev_ ?_)) | with_reducible exact ti_)
   ·exact absurd (by assumption:0≤numW []) (by decide)
   ·rfl
 | cons c r =>
   have hp:pfx [63] (c :: r) = decide ((c.toNat:Int) = 63):=by
    have:(c = 63) = ((c.toNat:Int) = 63):=by
     have h3:c = 63 ↔ c.toNat = (63:UInt8).toNat:=UInt8.toNat_inj.symm
     have h4:(63:UInt8).toNat = 63:=rfl
     rw [h4] at h3
     exact propext (h3.trans (by omega))
    simp [pfx,this]
   repeat' (first | refine vs_ ?_ | ((first | refine vr_ ?_ | refine qa (qgi _) fun _=>?_ | refine qa (qug _) fun _=>?_ | refine qa (qdn _) fun _=>?_ | (refine cs_ ?_ ?_<;>intro hc) | refine cj_ ?_ | simp (disch:=omega) only [encs_getN,qb])<;>(try refine ev_ ?_)) | with_reducible exact ti_)
   ·rw [qbr,if_pos (by assumption)]
   ·rename_i h1 h2 h3
    have h63:(c.toNat:Int) = 63:=by assumption
    have hne:¬ 0≤numW (c :: r):=by
     rw [numW,if_neg (by simp),if_pos (by show (c.toNat:Int) < 97;omega)];decide
    have hr2:0≤(qdb r).1∧(qdb r).1≤9223372036854775807:=hr
    rw [qbr,if_neg hne,hp,decide_eq_true h63,if_pos rfl,List.drop_succ_cons,List.drop_zero,if_pos (by assumption),qt (by omega) (by omega)]
   ·have h63:(c.toNat:Int) = 63:=by assumption
    have hne:¬ 0≤numW (c :: r):=by
     rw [numW,if_neg (by simp),if_pos (by show (c.toNat:Int) < 97;omega)];decide
    rw [qbr,if_neg hne,hp,decide_eq_true h63,if_pos rfl,List.drop_succ_cons,List.drop_zero,if_neg (by assumption)];rfl
   ·have h63:¬ (c.toNat:Int) = 63:=by assumption
    rw [qbr,if_neg (by assumption),hp,decide_eq_false h63,if_neg (by simp)];rfl
set_option maxRecDepth 4000

def p3A (p:P3):AV:=.tup [encY p.1,.str p.2.1,.bool p.2.2]
theorem qs0 (k:Nat) (p:P3):(p3A p).bd k = true:=by simp only [p3A,AV.bd,AV.bds,qbq,Bool.and_true]
def GA (n:Nat):Prop:=∀ (s:List UInt8) (d:Int),s.length≤4000->-10≤d->d≤300->3 * s.length + 1≤n->qg Try.prog 103 [.str s,.int .i64 d] (p3A (qca n s d))
def GR (n:Nat):Prop:=∀ (s:List UInt8) (d:Int),s.length≤4000->-10≤d->d≤300->3 * s.length + 1≤n->qg Try.prog 76 [.str s,.int .i64 d] (p3A (qc3 n (qca n s d) d))
def GT (n:Nat):Prop:=∀ (s:List UInt8) (d:Int),s.length≤4000->-10≤d->d≤300->3 * s.length + 2≤n->qg Try.prog 54 [.str s,.int .i64 d] (p3A (typG n s d))
def SufG (k:Nat) (p:P3):Prop:=p.1.args.length + p.2.1.length≤k
theorem qra (s:List UInt8) (b:Bool):SufG s.length (qbr (s.take (qbh s)),s.drop (qbh s),b):=by
 show (qbr (s.take (qbh s))).args.length + (s.drop (qbh s)).length≤s.length
 rw [qjt,List.length_drop]
 show 0 + _≤_
 omega
theorem qyh {k:Nat} {p:P3} (h:SufG k p):SufG k (endG p):=by
 unfold endG
 repeat' split
 ·show p.1.args.length + (p.2.1.drop 1).length≤k
  have:p.1.args.length + p.2.1.length≤k:=h
  rw [List.length_drop];omega
 ·exact h
 ·exact h
theorem qj8 (s:List UInt8):SufG s.length (Y0,s,false):=by
 show ([]:List Ty).length + s.length≤s.length
 simp
theorem qo3 {s:List UInt8} (h:goOn s = true):2≤s.length:=by
 simp only [goOn,Bool.and_eq_true,decide_eq_true_eq] at h
 exact h.1
theorem qbg5:∀ n,(∀ s d,SufG s.length (qca n s d))∧(∀ s d,SufG s.length (typG n s d))∧(∀ k p d,SufG k p->SufG k (qc3 n p d))∧(∀ k p d,SufG k p->SufG k (qik n p d)):=by
 intro n
 induction n with
 | zero =>
   refine ⟨fun s d=>?_,fun s d=>?_,fun k p d h=>?_,fun k p d h=>?_⟩
   ·rw [qca];exact qj8 s
   ·rw [typG];exact qj8 s
   ·rw [qc3];exact h
   ·rw [qik];exact h
 | succ n ih =>
   obtain ⟨iA,iT,iM,iL⟩:=ih
   refine ⟨fun s d=>?_,fun s d=>?_,fun k p d h=>?_,fun k p d h=>?_⟩
   ·rw [qca]
    split
    ·exact qj8 s
    ·split
     ·have h1:=iT (s.drop 1) (d - 1)
      rw [List.length_drop] at h1
      refine qyh ?_
      have h1:(typG n (s.drop 1) (d - 1)).1.args.length + (typG n (s.drop 1) (d - 1)).2.1.length≤s.length - 1:=h1
      show (typG n (s.drop 1) (d - 1)).1.args.length + (typG n (s.drop 1) (d - 1)).2.1.length≤s.length
      omega
     ·exact qra s _
   ·rw [typG]
    split
    ·exact qj8 s
    ·exact iL _ _ d (iM _ _ d (iA s d))
   ·rw [qc3]
    split
    ·rename_i hc
     have hl:=qo3 hc.2
     refine iM _ _ d ?_
     have h1:(qca n (p.2.1.drop 1) d).1.args.length + (qca n (p.2.1.drop 1) d).2.1.length≤(p.2.1.drop 1).length:=iA _ d
     rw [List.length_drop] at h1
     have h2:p.1.args.length + p.2.1.length≤k:=h
     show (p.1.args ++ [(qca n (p.2.1.drop 1) d).1]).length + (qca n (p.2.1.drop 1) d).2.1.length≤k
     rw [List.length_append,List.length_singleton];omega
    ·exact h
   ·rw [qik]
    split
    ·rename_i hc
     have h1:(typG n (p.2.1.drop 4) (d - 1)).1.args.length + (typG n (p.2.1.drop 4) (d - 1)).2.1.length≤(p.2.1.drop 4).length:=iT _ (d - 1)
     rw [List.length_drop] at h1
     have h2:p.1.args.length + p.2.1.length≤k:=h
     show 2 + (typG n (p.2.1.drop 4) (d - 1)).2.1.length≤k
     omega
    ·exact h
theorem qhu (n:Nat) (s:List UInt8) (d:Int):SufG s.length (qca n s d):=(qbg5 n).1 s d
theorem qub {k:Nat} {p:P3} (n:Nat) (d:Int) (h:SufG k p):SufG k (qc3 n p d):=(qbg5 n).2.2.1 k p d h
theorem qok {c:UInt8} {s:List UInt8} (h:s≠[]):pfx [c] s = decide (((s.getD 0 0).toNat:Int) = c.toNat):=by
 cases s with
 | nil=>exact absurd rfl h
 | cons x r =>
   rw [qdp]
   have h3:x = c ↔ x.toNat = c.toNat:=UInt8.toNat_inj.symm
   exact decide_eq_decide.2 (h3.trans (by show _ ↔ ((x.toNat:Int) = c.toNat);omega))
theorem qu2 {c:UInt8} {s:List UInt8} (h:s≠[]) (hp:pfx [c] s = false):¬ ((s.getD 0 0).toNat:Int) = c.toNat:=by rw [qok h] at hp;exact of_decide_eq_false hp
theorem qpw {c:UInt8} {s:List UInt8} (h:s≠[]) (hp:pfx [c] s = true):((s.getD 0 0).toNat:Int) = c.toNat:=by rw [qok h] at hp;exact of_decide_eq_true hp
set_option maxHeartbeats 1000000 in
theorem qbiv {n:Nat} (hT:GT n):GA (n + 1):=fun s d hs hd1 hd2 hn=>by
 refine qd c0cj (by simp) (by simp only [go_sem]) (qs0 0 _) fun hw=>?_
 have hw1:=qgw s
 have hdw:IntKind.i64.wrap (d - 1) = d - 1:=qt (by omega) (by omega)
 rw [qca]
 by_cases h1:d < 1
 ·rw [if_pos (.inl h1)]
  repeat' (first | refine vs_ ?_ | ((first | refine vr_ ?_ | fail)<;>(try simp only [h1,decide_true,go_sem,↓reduceIte])) | ((first | (refine cs_ ?_ ?_<;>intro hc) | refine cj_ ?_ | simp (disch:=omega) only [encs_getN,qb])<;>(try refine ev_ ?_)) | with_reducible exact ti_)
  all_goals rfl
 by_cases h0:s = []
 ·subst h0
  rw [if_pos (.inr rfl)]
  repeat' (first | refine vs_ ?_ | ((first | refine vr_ ?_ | fail)<;>(try simp only [h1,decide_false,go_sem,↓reduceIte])) | ((first | (refine cs_ ?_ ?_<;>intro hc) | refine cj_ ?_ | simp (disch:=omega) only [encs_getN,qb])<;>(try refine ev_ ?_)) | with_reducible exact ti_)
  all_goals rfl
 rw [if_neg (fun q=>q.elim h1 h0)]
 have hlp:=qer h0
 cases hp:pfx [40] s with
 | false =>
   rw [if_neg (by simp)]
   have hne:¬ ((s.getD 0 0).toNat:Int) = 40:=qu2 h0 hp
   repeat' (first | refine vs_ ?_ | ((first | refine vr_ ?_ | fail)<;>(try simp only [h1,h0,hne,decide_false,go_sem,↓reduceIte])) | ((first | (refine cs_ ?_ ?_<;>intro hc) | refine cj_ ?_ | simp (disch:=omega) only [encs_getN,qb] | refine qa (qjp _) fun _=>?_ | refine qa (qjw _) fun _=>?_ | refine qf (qjp _) ?_ | refine qf (qjw _) ?_)<;>(try refine ev_ ?_)) | with_reducible exact ti_)
   all_goals (simp only [p3A,show decide (0 < (qbh s:Int)) = decide (0 < qbh s) from decide_eq_decide.2 (by omega)])
 | true =>
   rw [if_pos rfl]
   have he:((s.getD 0 0).toNat:Int) = 40:=qpw h0 hp
   have ht:=hT (s.drop 1) (d - 1) (by rw [List.length_drop];omega) (by omega) (by omega) (by rw [List.length_drop];omega)
   generalize typG n (s.drop 1) (d - 1) = p at ht
   obtain ⟨t,r,ok⟩:=p
   have ht:qg Try.prog 54 [.str (s.drop 1),.int .i64 (d - 1)] (.tup [encY t,.str r,.bool ok]):=ht
   cases ok with
   | false =>
     repeat' (first | refine vs_ ?_ | ((first | refine vr_ ?_ | fail)<;>(try simp only [h1,h0,he,hdw,decide_false,go_sem,↓reduceIte])) | ((first | (refine cs_ ?_ ?_<;>intro hc) | refine cj_ ?_ | simp (disch:=omega) only [encs_getN,qb] | refine qa ht fun _=>?_ | refine qf ht ?_)<;>(try refine ev_ ?_)) | with_reducible exact ti_)
     all_goals rfl
   | true =>
     repeat' (first | refine vs_ ?_ | ((first | refine vr_ ?_ | fail)<;>(try simp only [h1,h0,he,hdw,decide_false,go_sem,↓reduceIte])) | ((first | (refine cs_ ?_ ?_<;>intro hc) | refine cj_ ?_ | simp (disch:=omega) only [encs_getN,qb] | refine qa ht fun _=>?_ | refine qf ht ?_)<;>(try refine ev_ ?_)) | with_reducible exact ti_)
     ·have e:r = []:=by assumption
      subst e;rfl
     ·have e:¬ r = []:=by assumption
      rw [endG,if_pos rfl,qok e,decide_eq_false (p:=((r.getD 0 0).toNat:Int) = (41:UInt8).toNat) (by assumption),if_neg (by simp)];rfl
     ·have e:¬ r = []:=by assumption
      rw [endG,if_pos rfl,qok e,decide_eq_true (p:=((r.getD 0 0).toNat:Int) = (41:UInt8).toNat) (by assumption),if_pos rfl];rfl
set_option maxHeartbeats 1000000 in
theorem qbjc {n:Nat} (hR:GR n) (hT:∀ m,m≤n->GT m):GT (n + 1):=fun s d hs hd1 hd2 hn=>by
 refine qd c0ck (by simp) (by simp only [go_sem]) (qs0 0 _) fun hw=>?_
 have hdw:IntKind.i64.wrap (d - 1) = d - 1:=qt (by omega) (by omega)
 rw [typG]
 by_cases h1:d < 1
 ·rw [if_pos h1]
  repeat' (first | refine vs_ ?_ | ((first | refine vr_ ?_ | fail)<;>(try simp only [h1,decide_true,go_sem,↓reduceIte])) | ((first | (refine cs_ ?_ ?_<;>intro hc) | refine cj_ ?_ | fail)<;>(try refine ev_ ?_)) | with_reducible exact ti_)
  all_goals rfl
 rw [if_neg h1]
 have hr:=hR s d hs hd1 hd2 (by omega)
 have hsf:SufG s.length (qc3 n (qca n s d) d):=qub n d (qhu n s d)
 generalize qc3 n (qca n s d) d = p at hr hsf ⊢
 obtain ⟨t,r,ok⟩:=p
 have hr:qg Try.prog 76 [.str s,.int .i64 d] (.tup [encY t,.str r,.bool ok]):=hr
 have hrl:t.args.length + r.length≤s.length:=hsf
 obtain ⟨n,rfl⟩:∃ m,n = m + 1:=⟨n - 1,by omega⟩
 rw [qik]
 cases ok with
 | false =>
   rw [if_neg (by simp)]
   repeat' (first | refine vs_ ?_ | ((first | refine vr_ ?_ | fail)<;>(try simp only [h1,decide_false,go_sem,↓reduceIte])) | ((first | (refine cs_ ?_ ?_<;>intro hc) | refine cj_ ?_ | fail | refine qa hr fun _=>?_)<;>(try refine ev_ ?_)) | with_reducible exact ti_)
   all_goals rfl
 | true =>
   by_cases h4:4 < r.length
   ·have h4i:4 < (r.length:Int):=by omega
    have hpa:pfx arrS r = decide (r.take 4 = [32,45,62,32]):=rfl
    by_cases ha:r.take 4 = [32,45,62,32]
    ·rw [if_pos ⟨rfl,h4,by rw [hpa,decide_eq_true ha]⟩]
     have ht:=hT n (by omega) (r.drop 4) (d - 1) (by rw [List.length_drop];omega) (by omega) (by omega) (by rw [List.length_drop];omega)
     dsimp only
     generalize typG n (r.drop 4) (d - 1) = q at ht ⊢
     obtain ⟨u,l,is⟩:=q
     have ht:qg Try.prog 54 [.str (r.drop 4),.int .i64 (d - 1)] (.tup [encY u,.str l,.bool is]):=ht
     repeat' (first | refine vs_ ?_ | ((first | refine vr_ ?_ | fail)<;>(try simp only [h1,h4i,ha,hdw,decide_false,decide_true,go_sem,↓reduceIte])) | ((first | (refine cs_ ?_ ?_<;>intro hc) | refine cj_ ?_ | fail | refine qa hr fun _=>?_ | refine qa ht fun _=>?_ | refine qa (qxc _ _) fun _=>?_)<;>(try refine ev_ ?_)) | with_reducible exact ti_)
     all_goals first | rfl | (exfalso;omega) | trace_state
    ·rw [if_neg (fun q=>ha (by have:=q.2.2;rw [hpa] at this;exact of_decide_eq_true this))]
     repeat' (first | refine vs_ ?_ | ((first | refine vr_ ?_ | fail)<;>(try simp only [h1,h4i,ha,hdw,decide_false,decide_true,go_sem,↓reduceIte])) | ((first | (refine cs_ ?_ ?_<;>intro hc) | refine cj_ ?_ | fail | refine qa hr fun _=>?_)<;>(try refine ev_ ?_)) | with_reducible exact ti_)
     all_goals first | rfl | (exfalso;omega) | trace_state
   ·rw [if_neg (fun q=>h4 q.2.1)]
    have h4i:¬ 4 < (r.length:Int):=by omega
    repeat' (first | refine vs_ ?_ | ((first | refine vr_ ?_ | fail)<;>(try simp only [h1,h4i,hdw,decide_false,decide_true,go_sem,↓reduceIte])) | ((first | (refine cs_ ?_ ?_<;>intro hc) | refine cj_ ?_ | fail | refine qa hr fun _=>?_)<;>(try refine ev_ ?_)) | with_reducible exact ti_)
    all_goals first | rfl | (exfalso;omega) | trace_state
set_option maxRecDepth 4000

abbrev rwZ:List AV:=[.str [],.int .i64 0,.nils]
def rwSt (d:Int) (x:Nat×P3):AF×List Ent:=(⟨[(0,.str x.2.2.1),(1,.int .i64 d),(4,.ptr 0 0),(7,.ptr 1 0),(8,.bool x.2.2.2)],[]⟩,[.blk rwZ,.blk (yc x.2.1)])
def rwSf (d:Int) (x:Bool×Nat×P3):AF×List Ent :=
 if x.1 = true then (⟨[(0,.str x.2.2.2.1),(1,.int .i64 d),(4,.ptr 0 0),(7,.ptr 1 0),(8,.bool x.2.2.2.2)],[]⟩,[.blk rwZ,.blk [.str x.2.2.1.con,.int .i64 x.2.2.1.var,.row 2 x.2.2.1.args.length],.app 3 (qk x.2.2.1.args)])
 else rwSt d x.2
def rwI (n:Nat) (k:Nat) (d:Int) (tg:P3) (x:Nat×P3):Prop:=qc3 x.1 x.2 d = tg∧3 * x.2.2.1.length + 1≤x.1∧x.1≤n∧SufG k x.2
theorem qtq {s:List UInt8} (h:goOn s = true):1 < (s.length:Int)∧((s.getD 0 0).toNat:Int) = 32∧¬ ((s.getD 1 0).toNat:Int) = 45:=by
 simp only [goOn,Bool.and_eq_true,decide_eq_true_eq,Bool.not_eq_true',decide_eq_false_iff_not] at h
 obtain ⟨h1,h2,h3⟩:=h
 refine ⟨by omega,by rw [h2];rfl,fun q=>h3 (UInt8.toNat_inj.1 (by have:(45:UInt8).toNat = 45:=rfl;omega))⟩
theorem qnr {s:List UInt8} (h:goOn s = false) (h1:1 < (s.length:Int)) (h2:((s.getD 0 0).toNat:Int) = 32):((s.getD 1 0).toNat:Int) = 45:=by
 have e2:s.getD 0 0 = 32:=UInt8.toNat_inj.1 (by have:(32:UInt8).toNat = 32:=rfl;omega)
 have e1:decide (1 < s.length) = true:=decide_eq_true (by omega)
 rw [goOn,e1,decide_eq_true e2] at h
 simp only [Bool.true_and,Bool.not_eq_false'] at h
 have:=of_decide_eq_true h
 rw [this];rfl
set_option maxHeartbeats 1000000 in
theorem qy8 {n k:Nat} {d:Int} {tg:P3} (hA:∀ m,m≤n->GA m) (hk:k≤4000) (hd1:-10≤d) (hd2:d≤300) {Q:VE->AF->List Ent->Prop} {m p} (hx:rwI n k d tg (m,p)) :
 VI Try.prog none 55 0 k0ch_l2 (lq (fun s'=>rwI n k d tg s'.2∧s'.2.1 < m) (rwSf d) 0 (blq 0 (lq (fun _:Unit=>True) (fun _=>rwSt d (0,tg)) 0 Q))) (rwSt d (m,p)).1 (rwSt d (m,p)).2:=by
 obtain ⟨e1,e2,e3,e4⟩:=hx
 obtain ⟨t,s,ok⟩:=p
 dsimp only at e1 e2 e3
 have e4:t.args.length + s.length≤k:=e4
 obtain ⟨m,rfl⟩:∃ m',m = m' + 1:=⟨m - 1,by omega⟩
 rw [qc3] at e1
 unfold rwSt
 dsimp only
 cases ok with
 | false =>
   rw [if_neg (by simp)] at e1
   subst e1
   repeat' (first | refine vs_ ?_ | ((first | refine vr_ ?_ | (refine cs_ ?_ ?_<;>intro hc) | refine cj_ ?_ | simp (disch:=omega) only [encs_getN,qb])<;>(try refine ev_ ?_)) | with_reducible exact ti_)
   refine qm () [0,1] trivial rfl (by simp) ?_ ?_ ?_<;>simp only [rwSt]<;>(try refine ev_ ?_)<;>(try with_reducible exact ti_)<;>(try simp (disch:=omega) only [qb,and_true,true_and])
 | true =>
   cases hg:goOn s with
   | false =>
     rw [if_neg (by simp [hg])] at e1
     subst e1
     have hgn:=qnr hg
     repeat' (first | refine vs_ ?_ | ((first | refine vr_ ?_ | (refine cs_ ?_ ?_<;>intro hc) | refine cj_ ?_ | simp (disch:=omega) only [encs_getN,qb])<;>(try refine ev_ ?_)) | with_reducible exact ti_)
     all_goals first | (exfalso;omega) | (refine qm () [0,1] trivial rfl (by simp) ?_ ?_ ?_<;>simp only [rwSt]<;>(try refine ev_ ?_)<;>(try with_reducible exact ti_)<;>(try simp (disch:=omega) only [qb,and_true,true_and]))
   | true =>
     rw [if_pos ⟨rfl,hg⟩] at e1
     obtain ⟨g1,g2,g3⟩:=qtq hg
     have hat:=hA m (by omega) (s.drop 1) d (by rw [List.length_drop];omega) hd1 hd2 (by rw [List.length_drop];omega)
     have hsf:=qhu m (s.drop 1) d
     dsimp only at e1
     generalize qca m (s.drop 1) d = q at hat hsf e1
     obtain ⟨a,r,is⟩:=q
     have hat:qg Try.prog 103 [.str (s.drop 1),.int .i64 d] (.tup [encY a,.str r,.bool is]):=hat
     have hsf:a.args.length + r.length≤(s.drop 1).length:=hsf
     rw [List.length_drop] at hsf
     have hnx:rwI n k d tg (m,.mk t.con t.var (t.args ++ [a]),r,is):=by
      refine ⟨e1,by dsimp only;omega,by dsimp only;omega,?_⟩
      show (t.args ++ [a]).length + r.length≤k
      rw [List.length_append,List.length_singleton];omega
     have hcap:qcf (t.args.length + 1) 48 = True:=eq_true (by unfold qcf;omega)
     have hcap2:qcf t.args.length 48 = True:=eq_true (by unfold qcf;omega)
     by_cases ht:t.args = []
     ·repeat' (first | refine vs_ ?_ | ((first | refine vr_ ?_ | fail)<;>(try simp only [g1,g2,g3,ht,decide_true,decide_false,go_sem,↓reduceIte])) | ((first | simp (disch:=omega) only [hcap] | simp (disch:=omega) only [hcap2] | (refine cs_ ?_ ?_<;>intro hc) | refine cj_ ?_ | simp (disch:=omega) only [encs_getN,qb] | refine qa hat fun _=>?_ | refine qf hat ?_)<;>(try refine ev_ ?_)) | with_reducible exact ti_)
      refine qm (true,m,.mk t.con t.var (t.args ++ [a]),r,is) [0,1,3] ⟨hnx,by dsimp only;omega⟩ rfl (by simp) ?_ ?_ ?_<;>simp only [rwSf,ht,if_true]<;>(try refine ev_ ?_)<;>(try with_reducible exact ti_)<;>(try simp (disch:=omega) only [qb,and_true,true_and])
      all_goals exact ⟨rfl,rfl⟩
     ·have htl:¬ t.args.length = 0:=fun h=>ht (List.length_eq_zero_iff.1 h)
      repeat' (first | refine vs_ ?_ | ((first | refine vr_ ?_ | fail)<;>(try simp only [g1,g2,g3,htl,decide_true,decide_false,go_sem,↓reduceIte])) | ((first | simp (disch:=omega) only [hcap] | simp (disch:=omega) only [hcap2] | (refine cs_ ?_ ?_<;>intro hc) | refine cj_ ?_ | simp (disch:=omega) only [encs_getN,qb] | refine qa hat fun _=>?_ | refine qf hat ?_)<;>(try refine ev_ ?_)) | with_reducible exact ti_)
      refine qm (true,m,.mk t.con t.var (t.args ++ [a]),r,is) [0,1,4] ⟨hnx,by dsimp only;omega⟩ rfl (by simp) ?_ ?_ ?_<;>simp only [rwSf,if_true]<;>(try refine ev_ ?_)<;>(try with_reducible exact ti_)<;>(try simp (disch:=omega) only [qb,and_true,true_and])
      all_goals exact ⟨by rw [show (Ty.mk t.con t.var (t.args ++ [a])).args.length = t.args.length + 1 by simp [Ty.args]];rfl,by rw [qdi];rfl⟩
theorem qxt {n k:Nat} {d:Int} {tg:P3} (hA:∀ m,m≤n->GA m) (hk:k≤4000) (hd1:-10≤d) (hd2:d≤300) {Q:VE->AF->List Ent->Prop} {af:AF} {H:List Ent}
 (hat:At (Bool×Nat×P3) (fun x=>rwI n k d tg x.2) (rwSf d) 0 af H):VI Try.prog none 55 0 (.block 0 (.loop k0ch_l2)) (lq (fun _:Unit=>True) (fun _=>rwSt d (0,tg)) 0 Q) af H:=by
 refine qj9 (qw (fun x=>rwI n k d tg x.2) (rwSf d) (fun x=>x.2.1) hat fun x hx=>?_)
 obtain ⟨b,m,p⟩:=x
 have hs:=qy8 (Q:=Q) hA hk hd1 hd2 hx
 cases b with
 | false=>exact hs
 | true =>
   refine qn3 1 2 (.sl 3) rfl ?_
   refine qki (S:=Unit) (Inv:=fun _=>True) (st:=fun _=>rwSt d (m,p)) ?_ fun _ _=>hs
   refine qm () [0,1] trivial rfl (by simp) ?_ ?_ ?_<;>simp only [rwSt,rwSf,if_true]<;>(try refine ev_ ?_)<;>(try with_reducible exact ti_)<;>(try simp (disch:=omega) only [qb,and_true,true_and])
theorem q0x {n k:Nat} {d:Int} {tg:P3} (hA:∀ m,m≤n->GA m) (hk:k≤4000) (hd1:-10≤d) (hd2:d≤300) {Q:VE->AF->List Ent->Prop} {af:AF} {H:List Ent}
 (hat:At (Bool×Nat×P3) (fun x=>rwI n k d tg x.2) (rwSf d) 0 af H) (hQ:∀ af H,At Unit (fun _=>True) (fun _=>rwSt d (0,tg)) 0 af H->Q .nrm af H):VI Try.prog none 55 0 (.block 0 (.loop k0ch_l2)) Q af H :=
 (qxt (Q:=Q) hA hk hd1 hd2 hat).mono fun e af H hq=>by
  cases e with
  | nrm=>exact hQ af H hq
  | _=>exact hq
theorem qbi7 {n:Nat} (hA:∀ m,m≤n->GA m):GR n:=fun s d hs hd1 hd2 hn=>by
 refine qd c0ch (by simp) (by simp only [go_sem]) (qs0 0 _) fun hw=>?_
 have hat:=hA n (Nat.le_refl n) s d hs hd1 hd2 hn
 have hsf:=qhu n s d
 obtain ⟨p,hp⟩:∃ p,qca n s d = p:=⟨_,rfl⟩
 rw [hp] at hat hsf ⊢
 obtain ⟨tg,htg⟩:∃ tg,qc3 n p d = tg:=⟨_,rfl⟩
 rw [htg]
 obtain ⟨t,r,ok⟩:=p
 have hat:qg Try.prog 103 [.str s,.int .i64 d] (.tup [encY t,.str r,.bool ok]):=hat
 have hrl:t.args.length + r.length≤s.length:=hsf
 unfold k0ch
 refine qb0 ?_
 generalize hz:IC.seq (IC.block 0 k0ch_l2.loop) _ = z1
 repeat' (first | refine vs_ ?_ | ((first | refine vr_ ?_ | refine qa hat fun _=>?_ | refine qf hat ?_ | (refine cs_ ?_ ?_<;>intro hc) | refine cj_ ?_ | simp (disch:=omega) only [encs_getN,qb])<;>(try refine ev_ ?_)) | with_reducible exact ti_)
 subst hz
 have hin:rwI n s.length d tg (n,t,r,ok):=⟨htg,by dsimp only;omega,Nat.le_refl _,hsf⟩
 refine qb0 (q0x (tg:=tg) hA hs hd1 hd2 ?_ fun af H hat=>qki hat fun _ _=>?_)
 ·refine qm (false,n,t,r,ok) [0,1] hin rfl (by simp) ?_ ?_ ?_<;>simp only [rwSf,rwSt,Bool.false_eq_true,if_false]<;>(try refine ev_ ?_)<;>(try with_reducible exact ti_)<;>(try simp (disch:=omega) only [qb,and_true,true_and])
 unfold rwSt
 repeat' (first | refine vs_ ?_ | ((first | refine vr_ ?_ | (refine cs_ ?_ ?_<;>intro hc) | refine cj_ ?_ | simp (disch:=omega) only [encs_getN,qb])<;>(try refine ev_ ?_)) | with_reducible exact ti_)
 all_goals rfl
theorem qbiw:∀ N,(∀ n,n≤N->GA n)∧∀ n,n≤N->GT n:=fun N=>by
 induction N with
 | zero=>exact ⟨fun n hn s d _ _ _ h=>by omega,fun n hn s d _ _ _ h=>by omega⟩
 | succ N ih =>
   have hT:GT (N + 1):=qbjc (qbi7 ih.1) ih.2
   have hA:GA (N + 1):=qbiv (ih.2 N (Nat.le_refl N))
   refine ⟨fun n hn=>?_,fun n hn=>?_⟩
   ·rcases Nat.lt_or_ge n (N + 1) with h | h
    ·exact ih.1 n (by omega)
    ·rw [show n = N + 1 by omega];exact hA
   ·rcases Nat.lt_or_ge n (N + 1) with h | h
    ·exact ih.2 n (by omega)
    ·rw [show n = N + 1 by omega];exact hT
theorem q2s (s:List UInt8):szY (qcs s).1≤2 * s.length + 1∧conY (qcs s).1≤s.length∧vrY (qcs s).1:=by
 have key:∀ n,(∀ s d,Gr s.length ((qca n s d).1,(qca n s d).2.1))∧(∀ s d,Gr s.length ((typG n s d).1,(typG n s d).2.1))∧(∀ k (p:P3) d,Gr k (p.1,p.2.1)->Gr k ((qc3 n p d).1,(qc3 n p d).2.1))∧(∀ k (p:P3) d,Gr k (p.1,p.2.1)->Gr k ((qik n p d).1,(qik n p d).2.1)):=by
  intro n
  induction n with
  | zero =>
    refine ⟨fun s d=>?_,fun s d=>?_,fun k p d h=>?_,fun k p d h=>?_⟩
    ·rw [qca];exact qmw s
    ·rw [typG];exact qmw s
    ·rw [qc3];exact h
    ·rw [qik];exact h
  | succ n ih =>
    obtain ⟨iA,iT,iM,iL⟩:=ih
    refine ⟨fun s d=>?_,fun s d=>?_,fun k p d h=>?_,fun k p d h=>?_⟩
    ·rw [qca]
     split
     ·exact qmw s
     ·split
      ·have h1:=iT (s.drop 1) (d - 1)
       rw [List.length_drop] at h1
       have h2:=h1.le (m:=s.length) (by omega)
       unfold endG
       repeat' split
       ·obtain ⟨q1,q2,q3⟩:=h2
        refine ⟨?_,?_,q3⟩<;>dsimp only at q1 q2 ⊢<;>rw [List.length_drop]<;>omega
       ·exact h2
       ·exact h2
      ·exact qrm _ _
    ·rw [typG]
     split
     ·exact qmw s
     ·exact iL _ _ d (iM _ _ d (iA s d))
    ·rw [qc3]
     split
     ·rename_i hc
      have hl:=qo3 hc.2
      have h1:=iA (p.2.1.drop 1) d
      rw [List.length_drop] at h1
      exact iM _ _ d (qzw h h1 (by omega))
     ·exact h
    ·rw [qik]
     split
     ·rename_i hc
      have h1:=iT (p.2.1.drop 4) (d - 1)
      rw [List.length_drop] at h1
      exact qz3 h h1 (by have:=hc.2.1;omega)
     ·exact h
 obtain ⟨h1,h2,h3⟩:=(key (3 * s.length + 2)).2.1 s 300
 exact ⟨by dsimp only at h1;unfold qcs;omega,by dsimp only at h2;unfold qcs;omega,h3⟩
theorem qqh {s:List UInt8} (hs:s.length≤4000):qg Try.prog 30 [.str s] (.tup [encY (qd4 s).1,.int .i64 (qd4 s).2]):=by
 rw [q5i]
 refine qd c0ci (by simp) (by simp only [go_sem]) (by simp [AV.bd,AV.bds,qbq]) fun hw=>?_
 obtain ⟨g1,g2,g3⟩:=q2s s
 have hr:=(qbiw (3 * s.length + 2)).2 _ (Nat.le_refl _) s 300 hs (by omega) (by omega) (Nat.le_refl _)
 have hL:=qgk (t:=(qcs s).1) (by omega)
 have hR:refY s = if (qcs s).2.2 = true∧(qcs s).2.1 = []∧qbd (qcs s).1 = true∧txtY (qcs s).1 = s then ((qcs s).1,0) else (Y0,5):=rfl
 have hT:qbd (qcs s).1 = true->qg Try.prog 55 [encY (qcs s).1] (.str (txtY (qcs s).1)):=fun h=>by
  have:=qor (t:=(qcs s).1) (k:=4000) (by omega) (by omega) g3 (by unfold Big;omega)
  rw [qbm,if_pos h] at this
  exact qi7 _ (qbf h) this
 change qg _ _ _ (p3A (qcs s)) at hr
 generalize qcs s = p at *
 obtain ⟨t,r,ok⟩:=p
 dsimp only at hL hT hR g1 g2 g3
 have hr:qg Try.prog 54 [.str s,.int .i64 300] (.tup [encY t,.str r,.bool ok]):=hr
 cases ok with
 | false =>
   rw [hR,if_neg (by simp)]
   repeat' (first | refine vs_ ?_ | ((first | refine vr_ ?_ | refine qa hr fun _=>?_ | (refine cs_ ?_ ?_<;>intro hc) | refine cj_ ?_ | fail)<;>(try refine ev_ ?_)) | with_reducible exact ti_)
   all_goals rfl
 | true =>
   by_cases he:r = []
   ·cases hl:qbd t with
    | false =>
      rw [hR,if_neg (by simp [hl])]
      rw [hl] at hL
      repeat' (first | refine vs_ ?_ | ((first | refine vr_ ?_ | fail)<;>(try simp only [he,go_sem,↓reduceIte])) | ((first | (refine cs_ ?_ ?_<;>intro hc) | refine cj_ ?_ | fail | refine qa hr fun _=>?_ | refine qa hL fun _=>?_)<;>(try refine ev_ ?_)) | with_reducible exact ti_)
      all_goals rfl
    | true =>
      have hT:=hT hl
      rw [hl] at hL
      by_cases h5:txtY t = s
      ·rw [hR,if_pos ⟨rfl,he,hl,h5⟩]
       repeat' (first | refine vs_ ?_ | ((first | refine vr_ ?_ | fail)<;>(try simp only [he,h5,go_sem,↓reduceIte])) | ((first | (refine cs_ ?_ ?_<;>intro hc) | refine cj_ ?_ | fail | refine qa hr fun _=>?_ | refine qa hL fun _=>?_ | refine qa hT fun _=>?_)<;>(try refine ev_ ?_)) | with_reducible exact ti_)
       all_goals rfl
      ·rw [hR,if_neg (fun q=>h5 q.2.2.2)]
       repeat' (first | refine vs_ ?_ | ((first | refine vr_ ?_ | fail)<;>(try simp only [he,h5,go_sem,↓reduceIte])) | ((first | (refine cs_ ?_ ?_<;>intro hc) | refine cj_ ?_ | fail | refine qa hr fun _=>?_ | refine qa hL fun _=>?_ | refine qa hT fun _=>?_)<;>(try refine ev_ ?_)) | with_reducible exact ti_)
       all_goals rfl
   ·rw [hR,if_neg (fun q=>he q.2.1)]
    repeat' (first | refine vs_ ?_ | ((first | refine vr_ ?_ | fail)<;>(try simp only [he,go_sem,↓reduceIte])) | ((first | (refine cs_ ?_ ?_<;>intro hc) | refine cj_ ?_ | fail | refine qa hr fun _=>?_)<;>(try refine ev_ ?_)) | with_reducible exact ti_)
    all_goals rfl
set_option maxRecDepth 4000

def wQ:Ty:=⟨[84],0,[⟨[],-1,[]⟩]⟩
def F16:Ty:=fun2 Y0 (fun2 wQ Y0)
def R16:Ty:=fun2 Y0 wQ
theorem tx1:qbm R16 = [97,32,45,62,32,84,32,63,48]:=by decide +kernel
theorem tx2:qbm F16 = [97,32,45,62,32,84,32,63,48,32,45,62,32,97]:=by decide +kernel
theorem rr1:qbt [97,32,45,62,32,84,32,63,48] = (R16,⟨[],0,false⟩):=by rfl
theorem rr2:qbt [97,32,32,45,62,32,98] = (⟨[],0,[⟨[],0,[]⟩]⟩,⟨[32,45,62,32,98],0,true⟩):=by rfl
theorem ry1:qd4 [97,32,45,62,32,84,32,63,48] = (R16,0):=by rw [qd4,rr1];exact (if_neg (by decide)).trans ((if_pos rfl).trans (if_pos tx1))
theorem ry2:qd4 [97,32,32,45,62,32,98] = (Y0,5):=by rw [qd4,rr2];exact if_pos rfl
theorem qwb:qg Try.prog 29 [.str [97,32,45,62,32,84,32,63,48]] (.tup [encY R16,.int .i64 0]):=by
 have h:=qjx (s:=[97,32,45,62,32,84,32,63,48]) (quv rr1 (by decide) (by decide) (by decide) (by decide) (by rw [tx1];decide))
 rwa [ry1] at h
theorem qzi:qg Try.prog 29 [.str [97,32,32,45,62,32,98]] (.tup [encY Y0,.int .i64 5]):=by
 have h:=qjx (s:=[97,32,32,45,62,32,98]) (quv rr2 (by decide) (by decide) (by decide) (by decide) (by decide +kernel))
 rwa [ry2] at h
theorem qbhy:qg Try.prog 24 [.sl 3 (qk [Y0,wQ]),encY Y0] (encY F16):=qt9 [Y0,wQ] Y0
theorem qy3:qg Try.prog 25 [encY F16] (.tup [.sl 3 (qk [Y0,wQ]),encY Y0]):=qnf (t:=F16) (by decide)
theorem qvj:qg Try.prog 31 [encY R16] (.str [97,32,45,62,32,84,32,63,48]):=by
 have h:=qfz (t:=R16) (by decide) (by decide) (by rw [tx1];decide)
 rwa [tx1] at h
theorem qws:qg Try.prog 31 [encY F16] (.str [97,32,45,62,32,84,32,63,48,32,45,62,32,97]):=by
 have h:=qfz (t:=F16) (by decide) (by decide) (by rw [tx2];decide)
 rwa [tx2] at h
theorem qbbo:qg Try.prog 22 [encY Y0,encY Y0] (.bool true):=qqo Y0 Y0
def wArr:Ty:=⟨[45,62],0,[]⟩
def wFix:Ty:=⟨[33,51],0,[]⟩
theorem q92:qg Try.prog 11 [encY F16] (.bool true):=by
 have h:=qc8 (t:=F16) (by decide) (by decide)
 rwa [show qbd F16 = true by decide +kernel] at h
theorem q6v:qg Try.prog 11 [encY wArr] (.bool false):=by
 have h:=qc8 (t:=wArr) (by decide) (by decide)
 rwa [show qbd wArr = false by decide +kernel] at h
theorem q6e:qg Try.prog 11 [encY wFix] (.bool true):=by
 have h:=qc8 (t:=wFix) (by decide) (by decide)
 rwa [show qbd wFix = true by decide +kernel] at h
theorem q1k:qg Try.prog 13 [encY F16] (.int .i64 6):=by
 have h:=qqe F16
 rw [qk8 F16 0 1 (by decide) (by decide)] at h
 exact h
theorem qwt:qg Try.prog 15 [encY wQ] (.int .i64 2):=by
 have h:=qnk wQ
 rw [qmq wQ 0 1 (by decide) (by decide) (by decide)] at h
 exact h
theorem qba7:qg Try.prog 20 [encY wQ,.int .i64 (-1)] (.bool true):=qln wQ (-1)
theorem q4l:qg Try.prog 20 [encY wQ,.int .i64 0] (.bool false):=qln wQ 0
theorem qbbm:qg Try.prog 18 [encY F16] (.sl 1 (ints [0,-1])):=qq4 F16 (by decide)
theorem q1x:qg Try.prog 17 [.sl 1 (ints [0,-1]),.sl 1 (ints [0,-1])] (.bool true):=qq7 [0,-1] [0,-1]
theorem qf3:qg Try.prog 10 [] (.bool true):=by
 refine qd c0cx (by simp) rfl rfl fun hw=>?_
 have h2:((qk [Y0,wQ]).length:Int) = 2:=rfl
 repeat' (first | refine vs_ ?_ | ((first | refine vr_ ?_ | fail)<;>(try simp only [h2,go_sem,↓reduceIte])) | ((first | (refine cs_ ?_ ?_<;>intro hc) | refine cj_ ?_ | fail | refine qa qbhy fun _=>?_ | refine qa qy3 fun _=>?_ | refine qa qwb fun _=>?_ | refine qa qzi fun _=>?_ | refine qa qvj fun _=>?_ | refine qa qbbo fun _=>?_ | refine qa qws fun _=>?_ | refine qa q92 fun _=>?_ | refine qa q6v fun _=>?_ | refine qa q6e fun _=>?_ | refine qa q1k fun _=>?_ | refine qa qwt fun _=>?_ | refine qa qba7 fun _=>?_ | refine qa q4l fun _=>?_ | refine qa qbbm fun _=>?_ | refine qa q1x fun _=>?_)<;>(try refine ev_ ?_)) | with_reducible exact ti_)
 exact absurd rfl hc
set_option maxRecDepth 4000

theorem qj5 {f:FuncId} {args:List AV} {r r':AV} (h:qg Try.prog f args r) (e:r = r'):qg Try.prog f args r':=e ▸ h
theorem qke {l:List Ty} (h:qfu l = true):qg Try.prog 9 [.sl 3 (qk l)] (.int .i64 1):=qj5 (qbc8 l) (by rw [h];rfl)
theorem q0c {l:List Ty} (h:qfu l = false):qg Try.prog 9 [.sl 3 (qk l)] (.int .i64 0):=qj5 (qbc8 l) (by rw [h];rfl)
theorem q8b {l:List Ty} (hl:l.length≤maxLen) (h:qfu l = true) {x:Ty} (hx:x∈l):szY x≤20000∧dpY x≤300:=by
 have:=q8l hl h
 have h1:=q4e hx
 have h2:=qnj hx
 omega
end Go.Proofs.Ytlahgbhhejkgbaa
