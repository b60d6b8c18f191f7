/- Texts of this proof, joined. -/
import Derived.Test.YtlmcofjcpadmiaaGreatDas
import Derived.Test.YtlmcofjcpadmiaaGreatDau
import Derived.Test.YtlmcofjcpadmiaaGreatDbb
import Derived.Test.YtlmcofjcpadmiaaGreatDaz
set_option linter.unusedVariables false
set_option linter.unusedSimpArgs false

/- trees that are written: the words of what is written (plain) -/
namespace Go.Proofs.YtlmcofjcpadmiaaGreat
open Go Go.RowKit Go.V

def tokG:Nat->List UInt8->Option (List T)
 | 0,_=>none
 | f + 1,l=>if l = [] then some [] else if (qcl l).2 = 0 then (tokG f ((l.drop (qcl l).1.text.length).drop (qcj (l.drop (qcl l).1.text.length)))).map ((qcl l).1 :: ·) else none
def tokW (s:List UInt8):Option (List T):=tokG (s.length + 1) (s.drop (qcj s))
theorem qo4:∀ (f g:Nat) (l:List UInt8),l.length < f->l.length < g->tokG f l = tokG g l
 | 0,g,l,h,_=>by omega
 | f + 1,0,l,_,h=>by omega
 | f + 1, g + 1, l, h1, h2 => by
   rw [tokG,tokG]
   by_cases hl:l = []
   ·rw [if_pos hl,if_pos hl]
   rw [if_neg hl,if_neg hl]
   by_cases he:(qcl l).2 = 0
   ·rw [if_pos he,if_pos he]
    have h0:=qv1 hl he
    have h3:=qvb l
    have h4:=List.length_pos_iff.2 hl
    rw [qo4 f g _ (by rw [List.length_drop,List.length_drop];omega) (by rw [List.length_drop,List.length_drop];omega)]
   ·rw [if_neg he,if_neg he]
theorem q4e {s:List UInt8} {f:Nat} (h:s.length < f):tokG f (s.drop (qcj s)) = tokW s:=qo4 _ _ _ (by rw [List.length_drop];omega) (by rw [List.length_drop];omega)
theorem q1w (l:List UInt8):bare (qcl l).1 = (qcl l).1:=by
 unfold qcl
 split
 ·rfl
 ·split
  ·rfl
  ·split<;>rfl
theorem qy7 {s:List UInt8}:∀ (f k:Nat) (ts:List T),k≤s.length->tokG f (s.drop k) = some ts->(lexF f s k).2.2 = 0∧(lexF f s k).1.map bare = ts
 | 0,k,ts,_,h=>by cases h
 | f + 1, k, ts, hk, h => by
   rw [tokG] at h
   rw [lexF]
   by_cases hl:s.drop k = []
   ·rw [if_pos hl] at h
    have:=congrArg List.length hl
    rw [List.length_drop,List.length_nil] at this
    rw [if_neg (by omega)]
    simp only [Option.some.injEq] at h
    subst h
    exact ⟨rfl,rfl⟩
   ·rw [if_neg hl] at h
    have hlt:k < s.length:=by
     have:=List.length_pos_iff.2 hl
     rw [List.length_drop] at this;omega
    rw [if_pos hlt]
    by_cases he:(qcl (s.drop k)).2 = 0
    ·rw [if_pos he] at h
     rw [if_pos he]
     obtain ⟨r,h1,h2⟩:=Option.map_eq_some_iff.1 h
     have hK:((s.drop k).drop (qcl (s.drop k)).1.text.length).drop (qcj ((s.drop k).drop (qcl (s.drop k)).1.text.length)) = s.drop (lexK s k):=by
      have e:(s.drop k).drop (qcl (s.drop k)).1.text.length = s.drop (lexN s k):=by rw [List.drop_drop];rfl
      rw [e,List.drop_drop];rfl
     rw [hK] at h1
     obtain ⟨h3,h4⟩:=qy7 f (lexK s k) r (qxo hk) h1
     rw [appR,if_pos h3]
     refine ⟨h3,?_⟩
     dsimp only
     rw [List.map_append,h4,← h2]
     show bare (lexT s k) :: r = _
     rw [← q1w (s.drop k)]
     rfl
    ·rw [if_neg he] at h;cases h
theorem qbc0 {s:List UInt8} {ts:List T} (h:tokW s = some ts):(lexG s (qcj s)).2.2 = 0∧(lexG s (qcj s)).1.map bare = ts:=by
 have:=qy7 (s.length + 1) (qcj s) ts (qta s) h
 rw [lexG,qkf (s.length - qcj s) (s.length + 1) _ (Nat.le_refl _) (by omega)]
 exact this
theorem qwf:∀ (f:Nat) (l:List UInt8) (ts:List T),tokG f l = some ts->∀ t∈ts,t.kind≠0
 | 0,l,ts,h=>by cases h
 | f + 1, l, ts, h => by
   rw [tokG] at h
   split at h
   ·simp only [Option.some.injEq] at h;subst h;intro t ht;cases ht
   ·split at h
    ·rename_i he
     obtain ⟨r,h1,h2⟩:=Option.map_eq_some_iff.1 h
     subst h2
     intro t ht
     rcases List.mem_cons.1 ht with rfl | ht
     ·unfold qcl at he ⊢
      split
      ·exact fun e=>by cases e
      ·split
       ·show q19 _≠0
        unfold q19
        repeat' split
        all_goals decide
       ·split
        ·rename_i h1 h2 h3
         rw [if_neg h1,if_neg h2,if_pos h3] at he
         simp at he
        ·exact fun e=>by cases e
     ·exact qwf f _ r h1 t ht
    ·cases h
theorem q2g {l:List T} {t:T} (hl:∀ u∈l,u.kind≠0) (ht:t.kind = 0):qfm (l ++ [t]) = l:=by
 induction l with
 | nil=>simp [qfm,ht]
 | cons u r ih=>rw [List.cons_append,qfm,if_neg (hl u (by simp)),ih (fun v hv=>hl v (by simp [hv]))]
theorem qb14 {s:List UInt8} {ts:List T} (hs:s.length≤1000000) (h:tokW s = some ts):(lexV s).2.2 = 0∧(remT (newK (lexV s).1)).map bare = ts:=by
 obtain ⟨h1,h2⟩:=qbc0 h
 rw [qxs (by omega) h1]
 refine ⟨rfl,?_⟩
 have hk:∀ u∈(lexG s (qcj s)).1,u.kind≠0:=fun u hu=>by
  have h3:bare u∈ts:=by rw [← h2];exact List.mem_map_of_mem hu
  have h4:=qwf _ _ _ h (bare u) h3
  exact h4
 show ((newK _).l.drop 0).map bare = ts
 rw [List.drop_zero]
 show (qfm ((lexG s (qcj s)).1 ++ [_])).map bare = ts
 rw [q2g hk rfl,h2]

/-! one word behind the other -/
def bnd (r:List UInt8):Prop:=onW ((r.getD 0 0).toNat:Int) = false
theorem q7p:tokW [] = some []:=rfl
theorem qvm {c:UInt8} {r:List UInt8} (h:qdq c.toNat = true):tokW (c :: r) = tokW r:=by
 rw [← q4e (s:=r) (f:=(c :: r).length + 1) (by simp;omega)]
 show tokG _ ((c :: r).drop (qcj (c :: r))) = _
 rw [qyi h,show 1 + qcj r = qcj r + 1 by omega,List.drop_succ_cons]
theorem qnh {w r:List UInt8} {t:T} (hs:qcj (w ++ r) = 0) (hw:w≠[]) (ht:qcl (w ++ r) = (t,0)) (hl:t.text.length = w.length):tokW (w ++ r) = (tokW r).map (t :: ·):=by
 rw [tokW,hs,List.drop_zero,tokG,if_neg (by simp [hw]),ht,if_pos rfl]
 dsimp only
 rw [hl,List.drop_left,q4e]
 have:=List.length_pos_iff.2 hw
 rw [List.length_append];omega
theorem qu8 {f:Int->Bool} {w r:List UInt8} (h:w.all (fun c=>f c.toNat) = true) (hr:f ((r.getD 0 0).toNat) = false):qb4 f (w ++ r) = w.length:=by
 induction w with
 | nil=>exact qtl hr
 | cons c w ih =>
   simp only [List.all_cons,Bool.and_eq_true] at h
   rw [List.cons_append,qw1 h.1,ih h.2];rfl
theorem qgu {w r:List UInt8} (h:w≠[]):(w ++ r).getD 0 0 = w.getD 0 0:=by cases w with | nil=>exact absurd rfl h | cons _ _=>rfl
theorem quq {l:List UInt8} (h:onW (l.getD 0 0).toNat = true):qcj l = 0:=by
 have hb:qdq (l.getD 0 0).toNat = false:=by
  apply Bool.eq_false_iff.2
  intro hb
  rw [q8t] at hb
  rcases hb with e | e | e | e<;>(rw [e] at h;cases h)
 refine qlx ?_ (qtl hb)
 apply Bool.eq_false_iff.2
 intro hp
 obtain ⟨r,rfl⟩:=qbdd hp
 cases h
theorem qny {w r:List UInt8} (hw:w≠[]) (ho:onsW w = true) (hd:qci (w.getD 0 0).toNat = false) (h39:decide (((w.getD 0 0).toNat:Int) = 39) = false) (hr:bnd r):tokW (w ++ r) = (tokW r).map (qmx w :: ·):=by
 have hon:onW (w.getD 0 0).toNat = true:=by
  have:=q8e hw
  rw [ho] at this
  simp only [Bool.true_eq,Bool.and_eq_true] at this
  exact this.1
 have hw':qb4 onW (w ++ r) = w.length:=qu8 ho hr
 refine qnh (quq (by rw [qgu hw];exact hon)) hw ?_ rfl
 rw [qbb8 (by rw [qgu hw];exact hd) (by rw [qgu hw,hon,h39];rfl),hw',List.take_left]
theorem q8u {w:List UInt8} (h:varW w = true):w≠[]∧onsW w = true∧qci (w.getD 0 0).toNat = false∧decide (((w.getD 0 0).toNat:Int) = 39) = false∧qmx w = ⟨1,0,0,w⟩:=by
 simp only [varW,Bool.and_eq_true,decide_eq_true_eq,Bool.not_eq_true'] at h
 obtain ⟨⟨⟨⟨h1,h2⟩,h3⟩,h4⟩,h5⟩:=h
 have hs:((w.getD 0 0).toNat:Int) = 95∨(97≤((w.getD 0 0).toNat:Int)∧((w.getD 0 0).toNat:Int)≤122):=by
  simp only [qq6,Bool.or_eq_true,Bool.and_eq_true,decide_eq_true_eq] at h3;omega
 have hc:conW w = false:=by
  simp only [conW,qpd]
  have:(decide (65≤((w.getD 0 0).toNat:Int)) && decide (((w.getD 0 0).toNat:Int)≤90)) = false:=by
   simp only [Bool.and_eq_false_iff,decide_eq_false_iff_not];omega
  rw [this];simp
 refine ⟨h1,h4,?_,decide_eq_false (by omega),?_⟩
 ·simp only [qci,Bool.and_eq_false_iff,decide_eq_false_iff_not];omega
 ·rw [qmx,q19,if_neg h2,h5,hc];rfl
theorem q3i {w:List UInt8} (h:conW w = true):w≠[]∧onsW w = true∧qci (w.getD 0 0).toNat = false∧decide (((w.getD 0 0).toNat:Int) = 39) = false∧qmx w = ⟨2,0,0,w⟩:=by
 have h':=h
 simp only [conW,Bool.and_eq_true,decide_eq_true_eq] at h
 obtain ⟨⟨h1,h3⟩,h4⟩:=h
 have hs:65≤((w.getD 0 0).toNat:Int)∧((w.getD 0 0).toNat:Int)≤90:=by
  simpa only [qpd,Bool.and_eq_true,decide_eq_true_eq] using h3
 have h2:w≠[95]:=fun e=>by rw [e] at hs;revert hs;decide
 have h5:resW w = false:=by
  apply Bool.eq_false_iff.2
  intro hr
  have:w∈wordsW:=by simpa [resW] using hr
  simp only [wordsW,List.mem_cons,List.not_mem_nil,or_false] at this
  rcases this with e | e | e | e | e | e | e | e | e | e | e<;>(rw [e] at hs;revert hs;decide)
 refine ⟨h1,h4,?_,decide_eq_false (by omega),?_⟩
 ·simp only [qci,Bool.and_eq_false_iff,decide_eq_false_iff_not];omega
 ·rw [qmx,q19,if_neg h2,h5,h'];rfl
theorem qlz {w r:List UInt8} (h:varW w = true) (hr:bnd r):tokW (w ++ r) = (tokW r).map ((⟨1,0,0,w⟩:T) :: ·):=by
 obtain ⟨h1,h2,h3,h4,h5⟩:=q8u h
 rw [qny h1 h2 h3 h4 hr,h5]
theorem qkb {w r:List UInt8} (h:conW w = true) (hr:bnd r):tokW (w ++ r) = (tokW r).map ((⟨2,0,0,w⟩:T) :: ·):=by
 obtain ⟨h1,h2,h3,h4,h5⟩:=q3i h
 rw [qny h1 h2 h3 h4 hr,h5]
theorem qbef:∀ u:Nat,(digN u).all (fun c=>qci c.toNat) = true∧digN u≠[]:=fun u=>by
 induction u using Nat.strongRecOn with
 | _ u ih =>
   by_cases h:u < 10
   ·rw [qhx h]
    refine ⟨?_,by simp⟩
    simp only [List.all_cons,List.all_nil,Bool.and_true]
    have:(UInt8.ofNat (48 + u)).toNat = 48 + u:=by rw [UInt8.toNat_ofNat'];omega
    simp only [qci,Bool.and_eq_true,decide_eq_true_eq];rw [this];omega
   ·rw [qok (by omega)]
    refine ⟨?_,by simp⟩
    have h8:(UInt8.ofNat (48 + u % 10)).toNat = 48 + u % 10:=by rw [UInt8.toNat_ofNat'];omega
    have h9:((UInt8.ofNat (48 + u % 10)).toNat:Int) = 48 + (u % 10:Nat):=by rw [h8];omega
    rw [List.all_append,(ih (u / 10) (by omega)).1,Bool.true_and]
    simp only [List.all_cons,List.all_nil,Bool.and_true,qci,Bool.and_eq_true,decide_eq_true_eq]
    rw [h9];omega
theorem qwg:∀ (a b:List UInt8) (k:Int),(qgk k a).2 = 0->qgk k (a ++ b) = qgk (qgk k a).1 b
 | [],b,k,_=>rfl
 | c :: r, b, k, h => by
   rw [List.cons_append]
   rw [qgk] at h ⊢
   split
   ·rename_i hc;rw [if_pos hc] at h;simp at h
   ·rename_i hc
    rw [if_neg hc] at h
    rw [qwg r b _ h]
    conv=>rhs;rw [qgk,if_neg hc]
theorem q26:∀ u:Nat,u≤9223372036854775807->qgk 0 (digN u) = ((u:Int),0):=fun u=>by
 induction u using Nat.strongRecOn with
 | _ u ih =>
   intro hu
   have hdig:∀ d:Nat,d < 10->digV (UInt8.ofNat (48 + d)) = (d:Int):=fun d hd=>by
    have h8:(UInt8.ofNat (48 + d)).toNat = 48 + d:=by rw [UInt8.toNat_ofNat'];omega
    unfold digV
    rw [h8,qcdo (by omega) (by omega),q5v (by omega) (by omega)];omega
   have htop:∀ d:Nat,d < 10->topV (UInt8.ofNat (48 + d)) = (9223372036854775807 - (d:Int)) / 10:=fun d hd=>by
    unfold topV
    rw [hdig d hd]
    have e1:IntKind.i64.wrap (9223372036854775807 - (d:Int)) = 9223372036854775807 - (d:Int):=q5v (by omega) (by omega)
    rw [e1,Int.tdiv_eq_ediv_of_nonneg (by omega)];exact q5v (by omega) (by omega)
   have hnx:∀ (d:Nat) (k:Int),d < 10->0≤k->10 * k + d≤9223372036854775807->nxtV k (UInt8.ofNat (48 + d)) = 10 * k + d:=fun d k hd hk hb=>by
    unfold nxtV
    rw [hdig d hd]
    have e1:IntKind.i64.wrap (10 * k) = 10 * k:=q5v (by omega) (by omega)
    rw [e1];exact q5v (by omega) (by omega)
   by_cases h:u < 10
   ·rw [qhx h,qgk,htop u h,if_neg (by omega),hnx u 0 h (by omega) (by omega),qgk]
    simp
   ·have h1:=ih (u / 10) (by omega) (by omega)
    rw [qok h,qwg _ _ _ (by rw [h1]),h1]
    dsimp only
    rw [qgk,htop (u % 10) (by omega),if_neg (by omega),hnx (u % 10) _ (by omega) (by omega) (by omega),qgk]
    congr 1
    omega
theorem q5m {m:Int} {r:List UInt8} (h0:0≤m) (h1:m≤9223372036854775807) (hr:bnd r):tokW (digI m ++ r) = (tokW r).map ((⟨3,0,m,digI m⟩:T) :: ·):=by
 obtain ⟨u,rfl⟩:∃ u:Nat,m = u:=⟨m.toNat,by omega⟩
 rw [qbcx]
 obtain ⟨ha,hne⟩:=qbef u
 have hd:qci (((digN u).getD 0 0).toNat:Int) = true:=by
  cases hx:digN u with
  | nil=>exact absurd hx hne
  | cons c w=>rw [hx] at ha;simp only [List.all_cons,Bool.and_eq_true] at ha;exact ha.1
 have hrd:qci ((r.getD 0 0).toNat:Int) = false:=by
  unfold bnd onW at hr
  simp only [Bool.or_eq_false_iff] at hr
  exact hr.1.2
 have hw':qb4 qci (digN u ++ r) = (digN u).length:=qu8 ha hrd
 refine qnh (quq ?_) hne ?_ rfl
 ·rw [qgu hne];unfold onW;rw [hd];simp
 ·rw [q8z (by rw [qgu hne];exact hd),hw',List.take_left,qko hne ha,q26 u (by omega)]
def mkT (w:List UInt8):T:=⟨5,0,0,w⟩
def rsT (w:List UInt8):T:=⟨4,0,0,w⟩
theorem qeo {w r:List UInt8} (hm:∀ r,qt1 (w ++ r) = w.length) (hw:w≠[]) (h0:onW ((w.getD 0 0).toNat:Int) = false) (h1:qdq ((w.getD 0 0).toNat:Int) = false) (h2:∀ r,pfx [45,45] (w ++ r) = false):tokW (w ++ r) = (tokW r).map (mkT w :: ·):=by
 have hd:qci (((w ++ r).getD 0 0).toNat:Int) = false:=by
  rw [qgu hw]
  unfold onW at h0
  simp only [Bool.or_eq_false_iff] at h0
  exact h0.1.2
 have ho:(onW (((w ++ r).getD 0 0).toNat:Int) && !decide ((((w ++ r).getD 0 0).toNat:Int) = 39)) = false:=by rw [qgu hw,h0];rfl
 have hp:=List.length_pos_iff.2 hw
 refine qnh (qlx (h2 r) (qtl (by rw [qgu hw];exact h1))) hw ?_ rfl
 rw [qrw hd ho (by rw [hm r];omega),hm r,List.take_left];rfl
theorem qb8u {r:List UInt8}:tokW (40 :: r) = (tokW r).map (mkT [40] :: ·):=qeo (w:=[40]) (fun r=>by cases r<;>rfl) (by decide) rfl rfl (fun r=>by cases r<;>rfl)

def Wd (s:List UInt8) (ts:List T):Prop:=∀ r,bnd r->tokW (s ++ r) = (tokW r).map (ts ++ ·)
theorem q2z (a b:List T) (o:Option (List T)):(o.map (b ++ ·)).map (a ++ ·) = o.map (a ++ b ++ ·):=by
 cases o<;>simp
theorem map_cons (t:T) (b:List T) (o:Option (List T)):(o.map (b ++ ·)).map (t :: ·) = o.map (t :: b ++ ·):=by
 cases o<;>simp
theorem map_nil (o:Option (List T)):o.map (([]:List T) ++ ·) = o:=by cases o<;>simp
theorem Wd.get {s:List UInt8} {ts:List T} (h:Wd s ts):tokW s = some ts:=by
 have:=h [] rfl
 rwa [List.append_nil,q7p,Option.map_some,List.append_nil] at this
def tkT (n:N):List T:=(tokW (ptT n)).getD []
theorem qdc (r:List UInt8):bnd (32 :: r):=rfl
theorem qb9d (r:List UInt8):bnd (41 :: r):=rfl
theorem qb6n (r:List UInt8):bnd (44 :: r):=rfl
theorem qbie (r:List UInt8):bnd (59 :: r):=rfl
theorem qb6 {r:List UInt8}:tokW (32 :: r) = tokW r:=qvm rfl
theorem qccg {r:List UInt8}:tokW (41 :: r) = (tokW r).map (mkT [41] :: ·):=qeo (w:=[41]) (fun r=>by cases r<;>rfl) (by decide) rfl rfl (fun r=>by cases r<;>rfl)
theorem q6v {r:List UInt8}:tokW (123 :: r) = (tokW r).map (mkT [123] :: ·):=qeo (w:=[123]) (fun r=>by cases r<;>rfl) (by decide) rfl rfl (fun r=>by cases r<;>rfl)
theorem q3b {r:List UInt8}:tokW (125 :: r) = (tokW r).map (mkT [125] :: ·):=qeo (w:=[125]) (fun r=>by cases r<;>rfl) (by decide) rfl rfl (fun r=>by cases r<;>rfl)
theorem qbid {r:List UInt8}:tokW (59 :: r) = (tokW r).map (mkT [59] :: ·):=qeo (w:=[59]) (fun r=>by cases r<;>rfl) (by decide) rfl rfl (fun r=>by cases r<;>rfl)
theorem qcb4 {r:List UInt8}:tokW (44 :: r) = (tokW r).map (mkT [44] :: ·):=qeo (w:=[44]) (fun r=>by cases r<;>rfl) (by decide) rfl rfl (fun r=>by cases r<;>rfl)
theorem qb7i {r:List UInt8}:tokW (92 :: r) = (tokW r).map (mkT [92] :: ·):=qeo (w:=[92]) (fun r=>by cases r<;>rfl) (by decide) rfl rfl (fun r=>by cases r<;>rfl)
theorem qbph {r:List UInt8}:tokW (124 :: r) = (tokW r).map (mkT [124] :: ·):=qeo (w:=[124]) (fun r=>by cases r<;>rfl) (by decide) rfl rfl (fun r=>by cases r<;>rfl)
theorem q34 {r:List UInt8}:tokW (45 :: 62 :: r) = (tokW r).map (mkT [45,62] :: ·):=qeo (w:=[45,62]) (fun r=>by cases r<;>rfl) (by decide) rfl rfl (fun r=>by cases r<;>rfl)
theorem qccu {r:List UInt8}:tokW (61 :: 62 :: r) = (tokW r).map (mkT [61,62] :: ·):=qeo (w:=[61,62]) (fun r=>by cases r<;>rfl) (by decide) rfl rfl (fun r=>by cases r<;>rfl)
theorem qb87 {r:List UInt8}:tokW (58 :: 58 :: r) = (tokW r).map (mkT [58,58] :: ·):=qeo (w:=[58,58]) (fun r=>by cases r<;>rfl) (by decide) rfl rfl (fun r=>by cases r<;>rfl)
theorem qbia {r:List UInt8}:tokW (61 :: 32 :: r) = (tokW r).map (mkT [61] :: ·):=by
 have h:tokW ([61] ++ 32 :: r) = (tokW (32 :: r)).map (mkT [61] :: ·):=by
  refine qnh (t:=mkT [61]) (qlx (by cases r<;>rfl) rfl) (by decide) ?_ rfl
  rw [qrw (by rfl) (by rfl) (by cases r<;>(intro h;cases h))]
  cases r<;>rfl
 rw [qb6] at h
 exact h
theorem qgc {w r:List UInt8} (hw:w≠[]) (ho:onsW w = true) (hd:qci (w.getD 0 0).toNat = false) (h39:decide (((w.getD 0 0).toNat:Int) = 39) = false) (hn:qmx w = rsT w) (hr:bnd r):tokW (w ++ r) = (tokW r).map (rsT w :: ·):=by
 rw [qny hw ho hd h39 hr,hn]
def cloK (b:Bool) (ts:List T):List T:=if b = true then ts else mkT [40] :: (ts ++ [mkT [41]])
theorem qk9 {s:List UInt8} {ts:List T} (h:Wd s ts) (b:Bool):Wd (cloW b s) (cloK b ts):=by
 intro r hr
 cases b with
 | true=>exact h r hr
 | false =>
   show tokW (40 :: (s ++ [41]) ++ r) = _
   rw [List.cons_append,qb8u,List.append_assoc,List.singleton_append,h _ (qb9d r),qccg]
   cases tokW r<;>simp [cloK]
def qg8 (n:N):T:=⟨if n.kind = 1 then 1 else 2,0,0,n.text⟩
def atK (n:N):List T:=cloK (qba n) (tkT n)
theorem qsj {f:N->List UInt8} {g:N->List T}:∀ (l:List N),(∀ x∈l,Wd (f x) (g x))->∀ r,bnd r->bnd ((l.map fun x=>32 :: f x).flatten ++ r)∧tokW ((l.map fun x=>32 :: f x).flatten ++ r) = (tokW r).map ((l.map g).flatten ++ ·)
 | [],_,r,hr=>⟨hr,(map_nil _).symm⟩
 | x :: l, h, r, hr => by
   obtain ⟨h1,h2⟩:=qsj l (fun y hy=>h y (by simp [hy])) r hr
   simp only [List.map_cons,List.flatten_cons,List.append_assoc,List.cons_append]
   refine ⟨qdc _,?_⟩
   rw [qb6,h x (by simp) _ h1,h2,q2z]
   cases tokW r<;>simp
theorem qgm {n:N} (h:tyW n = true) (ha:n.kind≠1∧n.text = arW):n.kids.length = 2∧tyW (n.kids.getD 0 N0) = true∧tyW (n.kids.getD 1 N0) = true:=by
 rw [qvu,if_neg ha.1] at h
 split at h
 ·rename_i h2
  rw [if_pos (show n.text = [45,62] from ha.2),Bool.and_eq_true,decide_eq_true_eq] at h
  have hl:n.kids.length = 2:=by omega
  rw [List.all_eq_true] at h
  exact ⟨hl,h.2 _ (qf (by omega)),h.2 _ (qf (by omega))⟩
 ·cases h
theorem qho {n:N} (h:tyW n = true) (ha:¬ (n.kind≠1∧n.text = arW)):(n.kind = 1∧varW n.text = true∧n.kids = []∨n.kind = 2∧conW n.text = true)∧n.num = 0∧∀ x∈n.kids,tyW x = true:=by
 rw [qvu] at h
 by_cases h1:n.kind = 1
 ·rw [if_pos h1,Bool.and_eq_true,Bool.and_eq_true,decide_eq_true_eq,decide_eq_true_eq] at h
  have h0:n.kids = []:=List.length_eq_zero_iff.1 (by omega)
  exact ⟨.inl ⟨h1,h.1.2,h0⟩,h.1.1,by rw [h0];intro x hx;cases hx⟩
 ·rw [if_neg h1] at h
  split at h
  ·rename_i h2
   rw [if_neg (fun e:n.text = [45,62]=>ha ⟨h1,e⟩),Bool.and_eq_true,List.all_eq_true] at h
   exact ⟨.inr ⟨h2.1,h.1⟩,h2.2,h.2⟩
  ·cases h
theorem qbnj {n:N} (h:n.kind = 1∧varW n.text = true∧n.kids = []∨n.kind = 2∧conW n.text = true):Wd n.text [qg8 n]:=by
 intro r hr
 rcases h with ⟨h1,h2,_⟩ | ⟨h1,h2⟩
 ·rw [qlz h2 hr,qg8,if_pos h1];cases tokW r<;>rfl
 ·rw [qkb h2 hr,qg8,if_neg (by omega)];cases tokW r<;>rfl
def tkT' (n:N):List T:=if n.kind≠1∧n.text = arW then cloK (!decide ((n.kids.getD 0 N0).text = arW)) (tkT (n.kids.getD 0 N0)) ++ mkT arW :: tkT (n.kids.getD 1 N0) else qg8 n :: (n.kids.map atK).flatten
theorem wdT:∀ n,tyW n = true->Wd (ptT n) (tkT n)∧tkT n = tkT' n:=N.ind fun n ih ht=>by
 have hw:Wd (ptT n) (tkT' n):=by
  intro r hr
  by_cases ha:n.kind≠1∧n.text = arW
  ·obtain ⟨hl,t0,t1⟩:=qgm ht ha
   have w0:=qk9 (ih _ (qf (i:=0) (by omega)) t0).1 (!decide ((n.kids.getD 0 N0).text = arW))
   have w1:=(ih _ (qf (i:=1) (by omega)) t1).1
   rw [qj1,tkT',if_pos ha,if_pos ha]
   simp only [List.append_assoc,List.cons_append,List.nil_append]
   rw [w0 _ (qdc _),qb6,q34,qb6,w1 r hr]
   cases tokW r<;>simp [arW]
  ·obtain ⟨hn,_,hk⟩:=qho ht ha
   rw [qj1,tkT',if_neg ha,if_neg ha,List.append_assoc]
   obtain ⟨h1,h2⟩:=qsj (f:=fun x=>cloW (qba x) (ptT x)) (g:=atK) n.kids (fun x hx=>qk9 (ih x hx (hk x hx)).1 _) r hr
   have e:n.kids.map atT = n.kids.map fun x=>32 :: cloW (qba x) (ptT x):=rfl
   rw [e,qbnj hn _ h1]
   refine (congrArg _ h2).trans ?_
   cases tokW r<;>simp
 have he:tkT n = tkT' n:=by rw [tkT,hw.get];rfl
 exact ⟨by rw [he];exact hw,he⟩

def Ah (c:K) (ts:List T):Prop:=c.err = 0∧(remT c).map bare = ts
section
variable {c:K} {t:T} {r ts:List T}
theorem Ah.len (h:Ah c ts):rest c = ts.length:=by rw [← qbck,← h.2,List.length_map]
theorem Ah.cons (h:Ah c (t :: r)):bare (qs c) = t∧Ah (qi c) r∧(qi c).nest = c.nest:=by
 obtain ⟨h1,h2⟩:=h
 cases hr:remT c with
 | nil=>rw [hr] at h2;cases h2
 | cons u s =>
   rw [hr,List.map_cons] at h2
   obtain ⟨e1,e2⟩:=List.cons.inj h2
   obtain ⟨p1,_⟩:=qu5 hr h1
   obtain ⟨n1,n2,n3⟩:=q3x hr h1
   exact ⟨by rw [p1];exact e1,⟨n2,by rw [n1];exact e2⟩,n3⟩
theorem Ah.nil (h:Ah c []):(qs c).kind = 0∧∀ x,isK c x = false:=by
 have hr:remT c = []:=List.map_eq_nil_iff.1 h.2
 have hp:=q96 hr h.1
 refine ⟨by rw [hp],fun x=>?_⟩
 unfold isK qce
 rw [hp];simp
theorem Ah.kind (h:Ah c (t :: r)):(qs c).kind = t.kind:=qqc (t:=qs c) (t':=bare (qs c)) rfl |>.trans (by rw [h.cons.1])
theorem Ah.text (h:Ah c (t :: r)):(qs c).text = t.text:=qop (t:=qs c) (t':=bare (qs c)) rfl |>.trans (by rw [h.cons.1])
theorem Ah.num (h:Ah c (t :: r)):(qs c).num = t.num:=qbbw (t:=qs c) (t':=bare (qs c)) rfl |>.trans (by rw [h.cons.1])
theorem Ah.is (h:Ah c (t :: r)) (x:List UInt8):isK c x = qce t x:=by
 unfold isK qce
 rw [h.1,h.kind,h.text];simp
theorem Ah.take (h:Ah c (t :: r)) {x:List UInt8} (hx:qce t x = true):qn c x = (qi c,true):=q6q (by rw [h.is];exact hx)
theorem Ah.leave_it (h:Ah c (t :: r)) {x:List UInt8} (hx:qce t x = false):qn c x = (c,false):=qoe (by rw [h.is];exact hx)
theorem Ah.want (h:Ah c (t :: r)) {x:List UInt8} (hx:qce t x = true):qr c x = (qi c,true):=if_pos (by rw [h.is];exact hx)
theorem Ah.enter (h:Ah c ts) (hn:c.nest < 200):(qd c).2 = true∧Ah (qd c).1 ts∧(qd c).1.nest = c.nest + 1:=by
 rw [qul h.1 (by omega)]
 exact ⟨rfl,h,rfl⟩
theorem Ah.leave (h:Ah c ts) {m:Nat} (hn:c.nest = m + 1):Ah (qdh c) ts∧(qdh c).nest = m:=by
 rw [qvv h.1 (by omega)]
 exact ⟨h,by show c.nest - 1 = m;omega⟩
end
theorem qeq {x n:N} (h1:x.kind = n.kind) (h2:x.num = n.num) (h3:x.text = n.text) (h4:x.kids.map qo = n.kids.map qo):NS x n:=by
 unfold NS
 rw [qgh,qgh,qgg,qgg,h1,h2,h3,h4]
def Got (c:K) (p:K×Option N) (n:N) (r:List T):Prop:=∃ x,p.2 = some x∧NS x n∧Ah p.1 r∧p.1.nest = c.nest
def NoA (r:List T):Prop:=∀ t s,r = t :: s->t.kind≠1∧t.kind≠2∧qce t [40] = false
def NoR (r:List T):Prop:=∀ t s,r = t :: s->qce t arW = false
theorem qjx {w:List UInt8} {s:List T} (h:w≠[40]):NoA (mkT w :: s):=fun t s' e=>by
 obtain ⟨rfl,_⟩:=List.cons.inj e
 exact ⟨by show (5:Int)≠1;decide,by show (5:Int)≠2;decide,by simp [qce,mkT,h]⟩
theorem qmg {w:List UInt8} {s:List T} (h:w≠arW):NoR (mkT w :: s):=fun t s' e=>by
 obtain ⟨rfl,_⟩:=List.cons.inj e
 simp [qce,mkT,h]
theorem qbx (w:List UInt8):qce (mkT w) w = true:=by simp [qce,mkT]
theorem qm8 {n:N} (ht:tyW n = true) (hl:qba n = true):tkT n = [qg8 n]∧(n.kind = 1∨n.kind = 2)∧n.num = 0:=by
 have hk:n.kids = []:=of_decide_eq_true hl
 have ha:¬ (n.kind≠1∧n.text = arW):=fun ha=>by have:=(qgm ht ha).1;rw [hk] at this;cases this
 obtain ⟨hn,h0,_⟩:=qho ht ha
 refine ⟨by rw [(wdT n ht).2,tkT',if_neg ha,hk];rfl,?_,h0⟩
 rcases hn with h | h
 ·exact .inl h.1
 ·exact .inr h.1
section
variable {rec:K->K×Option N}
theorem qzw {n:N} (ht:tyW n = true) {c:K} {r:List T} (h:Ah c (atK n ++ r)) (hn:qba n = false->c.nest < 200)
 (ih:qba n = false->∀ d,Ah d (tkT n ++ mkT [41] :: r)->d.nest = c.nest + 1->Got d (rec d) n (mkT [41] :: r)):Got c (qbv rec c) n r:=by
 unfold qbv
 cases hl:qba n with
 | true =>
   obtain ⟨e1,e2,e3⟩:=qm8 ht hl
   have hk:n.kids = []:=of_decide_eq_true hl
   rw [atK,hl,cloK,if_pos rfl,e1,List.singleton_append] at h
   obtain ⟨_,h2,h3⟩:=h.cons
   have hki:=h.kind
   have hte:=h.text
   rcases e2 with e2 | e2
   ·rw [if_pos (by rw [hki,qg8,if_pos e2])]
    exact ⟨_,rfl,qeq e2.symm e3.symm hte (by rw [hk];rfl),h2,h3⟩
   ·rw [if_neg (by rw [hki,qg8,if_neg (by omega)];show ¬ (2:Int) = 1;decide),if_pos (by rw [hki,qg8,if_neg (by omega)])]
    exact ⟨_,rfl,qeq e2.symm e3.symm hte (by rw [hk];rfl),h2,h3⟩
 | false =>
   rw [atK,hl,cloK,if_neg Bool.false_ne_true,List.cons_append,List.append_assoc,List.singleton_append] at h
   have hki:=h.kind
   rw [if_neg (by rw [hki];decide),if_neg (by rw [hki];decide),if_pos (by rw [h.is];exact qbx _)]
   obtain ⟨n1,n2,n3⟩:=h.enter (hn hl)
   rw [if_pos n1]
   obtain ⟨_,q1,q2⟩:=n2.cons
   obtain ⟨x,g1,g2,g3,g4⟩:=ih hl _ q1 (q2.trans n3)
   rw [if_pos (by rw [g1];rfl),g3.want (qbx _)]
   dsimp only
   rw [if_pos rfl]
   obtain ⟨_,q3,q4⟩:=g3.cons
   obtain ⟨l1,l2⟩:=q3.leave (m:=c.nest) (by rw [q4,g4,q2,n3])
   exact ⟨x,g1,g2,l1,l2⟩
theorem qnc {n:N} (ht:tyW n = true):∃ t s,atK n = t :: s∧(t.kind = 1∨t.kind = 2∨qce t [40] = true):=by
 cases hl:qba n with
 | true =>
   obtain ⟨e1,e2,e3⟩:=qm8 ht hl
   refine ⟨qg8 n,[],by rw [atK,hl,cloK,if_pos rfl,e1],?_⟩
   unfold qg8
   dsimp only
   rcases e2 with e | e
   ·rw [if_pos e];exact .inl rfl
   ·rw [if_neg (by omega)];exact .inr (.inl rfl)
 | false=>exact ⟨_,_,by rw [atK,hl,cloK,if_neg Bool.false_ne_true],.inr (.inr (qbx _))⟩
theorem q0d:∀ (l:List N) (f:Nat) (c:K) (acc:List N) (r:List T),(∀ x∈l,tyW x = true)->Ah c ((l.map atK).flatten ++ r)->NoA r->l.length < f →
 (∀ x∈l,qba x = false->c.nest < 200)->(∀ x∈l,qba x = false->∀ d s,Ah d (tkT x ++ mkT [41] :: s)->rest d < rest c->d.nest = c.nest + 1->Got d (rec d) x (mkT [41] :: s)) →
 ∃ xs,(qdn rec f c acc).2 = some (acc ++ xs)∧xs.map qo = l.map qo∧Ah (qdn rec f c acc).1 r∧(qdn rec f c acc).1.nest = c.nest
 | l,0,c,acc,r,_,_,_,hf,_,_=>by omega
 | [], f + 1, c, acc, r, _, h, hr, _, _, _ => by
   rw [qdn]
   have hb:begT c = false:=by
    unfold begT
    cases r with
    | nil=>obtain ⟨e1,e2⟩:=Ah.nil h;rw [e1,e2];rfl
    | cons t s =>
      have h:Ah c (t :: s):=h
      obtain ⟨e1,e2,e3⟩:=hr t s rfl
      rw [h.kind,h.is,e3,decide_eq_false e1,decide_eq_false e2];rfl
   rw [hb,if_neg Bool.false_ne_true]
   exact ⟨[],by simp,rfl,h,rfl⟩
 | x :: l, f + 1, c, acc, r, ht, h, hr, hf, hn, ih => by
   rw [qdn]
   rw [List.map_cons,List.flatten_cons,List.append_assoc] at h
   obtain ⟨t,s,e1,e2⟩:=qnc (ht x (by simp))
   have hb:begT c = true:=by
    unfold begT
    rw [e1,List.cons_append] at h
    rw [h.kind,h.is]
    rcases e2 with e | e | e<;>simp [e]
   rw [if_pos hb]
   have hlen:=h.len
   obtain ⟨y,g1,g2,g3,g4⟩:=qzw (rec:=rec) (ht x (by simp)) h (hn x (by simp)) fun hlf d hd hdn=>ih x (by simp) hlf d _ hd (by
    rw [hd.len,hlen,atK,hlf,cloK,if_neg Bool.false_ne_true]
    simp) hdn
   rw [if_pos (by rw [g1];rfl),g1]
   have hl2:rest (qbv rec c).1≤rest c:=by rw [g3.len,hlen];simp
   obtain ⟨xs,k1,k2,k3,k4⟩:=q0d l f _ (acc ++ [y]) r (fun z hz=>ht z (by simp [hz])) g3 hr (by simp at hf;omega) (fun z hz hl=>by rw [g4];exact hn z (by simp [hz]) hl) fun z hz hl d s hd hdr hdn=>ih z (by simp [hz]) hl d s hd (by omega) (by rw [hdn,g4])
   refine ⟨y :: xs,?_,?_,k3,k4.trans g4⟩
   ·dsimp only [Option.getD_some];rw [k1];simp
   ·rw [List.map_cons,List.map_cons,k2];exact congrArg (· :: _) g2
theorem q48 {n:N} (ht:tyW n = true) (ha:¬ (n.kind≠1∧n.text = arW)) {c:K} {r:List T} (h:Ah c (tkT n ++ r)) (hr:NoA r)
 (hn:∀ x∈n.kids,qba x = false->c.nest < 200) (ih:∀ x∈n.kids,qba x = false->∀ d s,Ah d (tkT x ++ mkT [41] :: s)->rest d < rest c->d.nest = c.nest + 1->Got d (rec d) x (mkT [41] :: s)):Got c (qb5 rec c) n r:=by
 obtain ⟨hn',h0,hk⟩:=qho ht ha
 have he:=(wdT n ht).2
 rw [tkT',if_neg ha] at he
 rw [he,List.cons_append] at h
 obtain ⟨_,h2,h3⟩:=h.cons
 have hki:=h.kind
 have hte:=h.text
 have hlen:=h.len
 unfold qb5
 rcases hn' with ⟨k1,_,k3⟩ | ⟨k1,_⟩
 ·rw [if_neg (by rw [hki,qg8,if_pos k1];show ¬ (1:Int) = 2;decide)]
  unfold qbv
  rw [if_pos (by rw [hki,qg8,if_pos k1])]
  rw [k3] at h2
  exact ⟨_,rfl,qeq k1.symm h0.symm hte (by rw [k3];rfl),h2,h3⟩
 ·rw [if_pos (by rw [hki,qg8,if_neg (by omega)])]
  have hf:n.kids.length < rest c + 1:=by
   have:n.kids.length≤(n.kids.map atK).flatten.length:=by
    have hp:∀ l:List N,(∀ x∈l,tyW x = true)->l.length≤(l.map atK).flatten.length:=fun l=>by
     induction l with
     | nil=>intro _;exact Nat.le_refl _
     | cons x l ihl =>
       intro hx
       obtain ⟨t,s,e1,_⟩:=qnc (hx x (by simp))
       have:=ihl fun y hy=>hx y (by simp [hy])
       simp only [List.map_cons,List.flatten_cons,List.length_append,List.length_cons,e1]
       omega
    exact hp _ hk
   rw [hlen];simp only [List.length_cons,List.length_append];omega
  have hlt:rest (qi c) < rest c:=by rw [h2.len,hlen];simp
  obtain ⟨xs,g1,g2,g3,g4⟩:=q0d (rec:=rec) n.kids (rest c + 1) (qi c) [] r hk h2 hr hf (fun x hx hl=>by rw [h3];exact hn x hx hl) fun x hx hl d s hd hdr hdn=>ih x hx hl d s hd (by omega) (by rw [hdn,h3])
  rw [List.nil_append] at g1
  refine ⟨qkc c 2 xs,by rw [g1];rfl,qeq k1.symm h0.symm hte g2,g3,g4.trans h3⟩
end
theorem qcm {n x:N} (h:x∈n.kids):dp x + 1≤dp n:=by
 rw [qks n]
 have:∀ l:List N,x∈l->dp x≤dps l:=fun l=>by
  induction l with
  | nil=>intro h;cases h
  | cons y l ih =>
    intro h
    rw [dps]
    rcases List.mem_cons.1 h with rfl | h
    ·omega
    ·have:=ih h;omega
 have:=this _ h
 omega
theorem qit (n:N):1≤dp n:=by rw [qks];omega
theorem qth {n:N} (h:qba n = false):2≤dp n:=by
 cases hk:n.kids with
 | nil=>rw [qba,decide_eq_true hk] at h;cases h
 | cons x l=>have h1:=qcm (n:=n) (x:=x) (by rw [hk];simp);have:=qit x;omega
theorem qb8a {s:List T}:NoA (mkT arW :: s):=qjx (by decide)
theorem qlo:∀ (f:Nat) (n:N) (c:K) (r:List T),tyW n = true->Ah c (tkT n ++ r)->NoA r->NoR r->rest c < f->c.nest + 2 * dp n≤201->Got c (qbn f c) n r
 | 0,n,c,r,_,_,_,_,hf,_=>by omega
 | f + 1, n, c, r, ht, h, hr, hr', hf, hd => by
   have hp:=qit n
   rw [qbn]
   obtain ⟨n1,n2,n3⟩:=h.enter (by omega)
   rw [if_pos n1]
   have hc1:rest (qd c).1 = rest c:=by rw [n2.len,h.len]
   have hih:∀ m:N,dp m + 1≤dp n->∀ x∈m.kids,qba x = false->tyW x = true->∀ d s,Ah d (tkT x ++ mkT [41] :: s)->rest d < rest (qd c).1->d.nest = (qd c).1.nest + 1->Got d (qbn f d) x (mkT [41] :: s):=fun m hm x hx hl hxt d s hd' hdr hdn =>
    qlo f x d _ hxt hd' (qjx (by decide)) (qmg (by decide)) (by omega) (by have:=qcm hx;omega)
   by_cases ha:n.kind≠1∧n.text = arW
   ·obtain ⟨hl,t0,t1⟩:=qgm ht ha
    have m0:=qf (l:=n.kids) (i:=0) (by omega)
    have m1:=qf (l:=n.kids) (i:=1) (by omega)
    have d0:=qcm m0
    have d1:=qcm m1
    have he:=(wdT n ht).2
    rw [tkT',if_pos ha] at he
    rw [he,List.append_assoc,List.cons_append] at n2
    have hG:Got (qd c).1 (qb5 (qbn f) (qd c).1) (n.kids.getD 0 N0) (mkT arW :: (tkT (n.kids.getD 1 N0) ++ r)):=by
     by_cases hb:(n.kids.getD 0 N0).text = arW
     ·rw [decide_eq_true hb] at n2
      have hk2:(n.kids.getD 0 N0).kind≠1:=fun e=>by
       have:=t0
       rw [qvu,if_pos e,hb] at this
       simp only [Bool.and_eq_true] at this
       have:=this.1.2
       revert this;decide
      have hlf:qba (n.kids.getD 0 N0) = false:=by
       obtain ⟨q,_,_⟩:=qgm t0 ⟨hk2,hb⟩
       apply decide_eq_false
       intro e;rw [e] at q;cases q
      have hat:atK (n.kids.getD 0 N0) = cloK (!true) (tkT (n.kids.getD 0 N0)):=by rw [atK,hlf];rfl
      rw [← hat] at n2
      have hrw:qb5 (qbn f) (qd c).1 = qbv (qbn f) (qd c).1:=by
       unfold qb5
       have n2':=n2
       rw [hat] at n2'
       rw [if_neg (by rw [Ah.kind (t:=mkT [40]) n2'];decide)]
      rw [hrw]
      have hlen:=n2.len
      have h2:=qth hlf
      refine qzw t0 n2 (fun _=>by omega) fun _ d hd' hdn=>qlo f _ d _ t0 hd' (qjx (by decide)) (qmg (by decide)) ?_ (by omega)
      have:rest d < rest (qd c).1:=by
       rw [hd'.len,hlen,hat]
       simp [cloK]
      omega
     ·rw [decide_eq_false hb] at n2
      have ha0:¬ ((n.kids.getD 0 N0).kind≠1∧(n.kids.getD 0 N0).text = arW):=fun h=>hb h.2
      obtain ⟨_,_,hkk⟩:=qho t0 ha0
      exact q48 t0 ha0 n2 qb8a (fun x hx hl=>by have:=qcm hx;have:=qit x;omega) fun x hx hl d s hd' hdr hdn=>hih _ d0 x hx hl (hkk x hx) d s hd' hdr hdn
    obtain ⟨x,g1,g2,g3,g4⟩:=hG
    rw [if_pos (by rw [g1];rfl),g3.take (x:=[45,62]) (qbx _)]
    dsimp only
    rw [if_pos rfl,g1]
    obtain ⟨_,q1,q2⟩:=g3.cons
    have hlt:rest (qi (qb5 (qbn f) (qd c).1).1) < rest c:=by
     rw [← hc1,q1.len,n2.len]
     simp only [List.length_append,List.length_cons];omega
    obtain ⟨y,k1,k2,k3,k4⟩:=qlo f _ _ r t1 q1 hr hr' (by omega) (by rw [q2,g4,n3];omega)
    rw [k1]
    obtain ⟨l1,l2⟩:=k3.leave (m:=c.nest) (by rw [k4,q2,g4,n3])
    refine ⟨qjw x y,rfl,?_,l1,l2⟩
    have hk2:n.kind = 2∧n.num = 0:=by
     have:=ht
     rw [qvu,if_neg ha.1] at this
     split at this
     ·assumption
     ·cases this
    refine qeq hk2.1.symm hk2.2.symm ha.2.symm ?_
    have hks:n.kids = [n.kids.getD 0 N0,n.kids.getD 1 N0]:=by
     cases hq:n.kids with
     | nil=>rw [hq] at hl;cases hl
     | cons a l => cases l with
       | nil=>rw [hq] at hl;cases hl
       | cons b l => cases l with
         | nil=>rfl
         | cons _ _=>rw [hq] at hl;simp at hl
    rw [hks]
    show [qo x,qo y] = [qo _,qo _]
    rw [show qo x = qo (n.kids.getD 0 N0) from g2,show qo y = qo (n.kids.getD 1 N0) from k2]
   ·obtain ⟨_,_,hkk⟩:=qho ht ha
    obtain ⟨x,g1,g2,g3,g4⟩:=q48 (rec:=qbn f) ht ha n2 hr (fun x hx hl=>by have:=qcm hx;have:=qit x;omega) fun x hx hl d s hd' hdr hdn =>
     qlo f x d _ (hkk x hx) hd' (qjx (by decide)) (qmg (by decide)) (by omega) (by have:=qcm hx;omega)
    have hno:qn (qb5 (qbn f) (qd c).1).1 [45,62] = ((qb5 (qbn f) (qd c).1).1,false):=by
     cases r with
     | nil=>exact qoe ((Ah.nil g3).2 _)
     | cons t s=>exact Ah.leave_it g3 (hr' t s rfl)
    rw [if_pos (by rw [g1];rfl),hno]
    dsimp only
    rw [if_neg Bool.false_ne_true]
    obtain ⟨l1,l2⟩:=g3.leave (m:=c.nest) (by rw [g4,n3])
    exact ⟨x,g1,g2,l1,l2⟩
end Go.Proofs.YtlmcofjcpadmiaaGreat
