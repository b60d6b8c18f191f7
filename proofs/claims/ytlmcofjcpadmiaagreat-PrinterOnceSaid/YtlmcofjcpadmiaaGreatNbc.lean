/- Texts of this proof, joined. -/
import Derived.Test.YtlmcofjcpadmiaaGreatNar
import Derived.Test.YtlmcofjcpadmiaaGreatNat
import Derived.Test.YtlmcofjcpadmiaaGreatNbb
import Derived.Test.YtlmcofjcpadmiaaGreatNay
set_option linter.unusedVariables false
set_option linter.unusedSimpArgs false

/- trees that are written: the words of what is written (plain) -/
namespace Go.Proofs.YtlmcofjcpadmiaaGreat
open Go Go.RowKit Go.V

def tokG:Nat->List UInt8->Option (List T)
 | 0,_=>none
 | f + 1,l=>if l = [] then some [] else if (qcj l).2 = 0 then (tokG f ((l.drop (qcj l).1.text.length).drop (qck (l.drop (qcj l).1.text.length)))).map ((qcj l).1 :: ·) else none
def tokW (s:List UInt8):Option (List T):=tokG (s.length + 1) (s.drop (qck s))
theorem qsi:∀ (f g:Nat) (l:List UInt8),l.length < f->l.length < g->tokG f l = tokG g l
 | 0,g,l,h,_=>by omega
 | f + 1,0,l,_,h=>by omega
 | f + 1, g + 1, l, h1, h2 => by
   rw [tokG,tokG]
   by_cases hl:l = []
   ·rw [if_pos hl,if_pos hl]
   rw [if_neg hl,if_neg hl]
   by_cases he:(qcj l).2 = 0
   ·rw [if_pos he,if_pos he]
    have h0:=qr4 hl he
    have h3:=q0z l
    have h4:=List.length_pos_iff.2 hl
    rw [qsi f g _ (by rw [List.length_drop,List.length_drop];omega) (by rw [List.length_drop,List.length_drop];omega)]
   ·rw [if_neg he,if_neg he]
theorem qbej {s:List UInt8} {f:Nat} (h:s.length < f):tokG f (s.drop (qck s)) = tokW s:=qsi _ _ _ (by rw [List.length_drop];omega) (by rw [List.length_drop];omega)
theorem q8h (l:List UInt8):bare (qcj l).1 = (qcj l).1:=by
 unfold qcj
 split
 ·rfl
 ·split
  ·rfl
  ·split<;>rfl
theorem q6l {s:List UInt8}:∀ (f k:Nat) (ts:List T),k≤s.length->tokG f (s.drop k) = some ts->(lexF f s k).2.2 = 0∧(lexF f s k).1.map bare = ts
 | 0,k,ts,_,h=>by cases h
 | f + 1, k, ts, hk, h => by
   rw [tokG] at h
   rw [lexF]
   by_cases hl:s.drop k = []
   ·rw [if_pos hl] at h
    have:=congrArg List.length hl
    rw [List.length_drop,List.length_nil] at this
    rw [if_neg (by omega)]
    simp only [Option.some.injEq] at h
    subst h
    exact ⟨rfl,rfl⟩
   ·rw [if_neg hl] at h
    have hlt:k < s.length:=by
     have:=List.length_pos_iff.2 hl
     rw [List.length_drop] at this;omega
    rw [if_pos hlt]
    by_cases he:(qcj (s.drop k)).2 = 0
    ·rw [if_pos he] at h
     rw [if_pos he]
     obtain ⟨r,h1,h2⟩:=Option.map_eq_some_iff.1 h
     have hK:((s.drop k).drop (qcj (s.drop k)).1.text.length).drop (qck ((s.drop k).drop (qcj (s.drop k)).1.text.length)) = s.drop (lexK s k):=by
      have e:(s.drop k).drop (qcj (s.drop k)).1.text.length = s.drop (lexN s k):=by rw [List.drop_drop];rfl
      rw [e,List.drop_drop];rfl
     rw [hK] at h1
     obtain ⟨h3,h4⟩:=q6l f (lexK s k) r (qwe hk) h1
     rw [appR,if_pos h3]
     refine ⟨h3,?_⟩
     dsimp only
     rw [List.map_append,h4,← h2]
     show bare (lexT s k) :: r = _
     rw [← q8h (s.drop k)]
     rfl
    ·rw [if_neg he] at h;cases h
theorem qbhs {s:List UInt8} {ts:List T} (h:tokW s = some ts):(lexG s (qck s)).2.2 = 0∧(lexG s (qck s)).1.map bare = ts:=by
 have:=q6l (s.length + 1) (qck s) ts (qxv s) h
 rw [lexG,qmk (s.length - qck s) (s.length + 1) _ (Nat.le_refl _) (by omega)]
 exact this
theorem qz8:∀ (f:Nat) (l:List UInt8) (ts:List T),tokG f l = some ts->∀ t∈ts,t.kind≠0
 | 0,l,ts,h=>by cases h
 | f + 1, l, ts, h => by
   rw [tokG] at h
   split at h
   ·simp only [Option.some.injEq] at h;subst h;intro t ht;cases ht
   ·split at h
    ·rename_i he
     obtain ⟨r,h1,h2⟩:=Option.map_eq_some_iff.1 h
     subst h2
     intro t ht
     rcases List.mem_cons.1 ht with rfl | ht
     ·unfold qcj at he ⊢
      split
      ·exact fun e=>by cases e
      ·split
       ·show q3q _≠0
        unfold q3q
        repeat' split
        all_goals decide
       ·split
        ·rename_i h1 h2 h3
         rw [if_neg h1,if_neg h2,if_pos h3] at he
         simp at he
        ·exact fun e=>by cases e
     ·exact qz8 f _ r h1 t ht
    ·cases h
theorem q7k {l:List T} {t:T} (hl:∀ u∈l,u.kind≠0) (ht:t.kind = 0):qem (l ++ [t]) = l:=by
 induction l with
 | nil=>simp [qem,ht]
 | cons u r ih=>rw [List.cons_append,qem,if_neg (hl u (by simp)),ih (fun v hv=>hl v (by simp [hv]))]
theorem qcby {s:List UInt8} {ts:List T} (hs:s.length≤1000000) (h:tokW s = some ts):(lexV s).2.2 = 0∧(remT (newK (lexV s).1)).map bare = ts:=by
 obtain ⟨h1,h2⟩:=qbhs h
 rw [qrz (by omega) h1]
 refine ⟨rfl,?_⟩
 have hk:∀ u∈(lexG s (qck s)).1,u.kind≠0:=fun u hu=>by
  have h3:bare u∈ts:=by rw [← h2];exact List.mem_map_of_mem hu
  have h4:=qz8 _ _ _ h (bare u) h3
  exact h4
 show ((newK _).l.drop 0).map bare = ts
 rw [List.drop_zero]
 show (qem ((lexG s (qck s)).1 ++ [_])).map bare = ts
 rw [q7k hk rfl,h2]

/-! one word behind the other -/
def bnd (r:List UInt8):Prop:=onW ((r.getD 0 0).toNat:Int) = false
theorem qbgz:tokW [] = some []:=rfl
theorem qyk {c:UInt8} {r:List UInt8} (h:qee c.toNat = true):tokW (c :: r) = tokW r:=by
 rw [← qbej (s:=r) (f:=(c :: r).length + 1) (by simp;omega)]
 show tokG _ ((c :: r).drop (qck (c :: r))) = _
 rw [q3u h,show 1 + qck r = qck r + 1 by omega,List.drop_succ_cons]
theorem qqj {w r:List UInt8} {t:T} (hs:qck (w ++ r) = 0) (hw:w≠[]) (ht:qcj (w ++ r) = (t,0)) (hl:t.text.length = w.length):tokW (w ++ r) = (tokW r).map (t :: ·):=by
 rw [tokW,hs,List.drop_zero,tokG,if_neg (by simp [hw]),ht,if_pos rfl]
 dsimp only
 rw [hl,List.drop_left,qbej]
 have:=List.length_pos_iff.2 hw
 rw [List.length_append];omega
theorem q13 {f:Int->Bool} {w r:List UInt8} (h:w.all (fun c=>f c.toNat) = true) (hr:f ((r.getD 0 0).toNat) = false):qbz f (w ++ r) = w.length:=by
 induction w with
 | nil=>exact qxq hr
 | cons c w ih =>
   simp only [List.all_cons,Bool.and_eq_true] at h
   rw [List.cons_append,qs7 h.1,ih h.2];rfl
theorem qia {w r:List UInt8} (h:w≠[]):(w ++ r).getD 0 0 = w.getD 0 0:=by cases w with | nil=>exact absurd rfl h | cons _ _=>rfl
theorem q1o {l:List UInt8} (h:onW (l.getD 0 0).toNat = true):qck l = 0:=by
 have hb:qee (l.getD 0 0).toNat = false:=by
  apply Bool.eq_false_iff.2
  intro hb
  rw [qbfv] at hb
  rcases hb with e | e | e | e<;>(rw [e] at h;cases h)
 refine qo4 ?_ (qxq hb)
 apply Bool.eq_false_iff.2
 intro hp
 obtain ⟨r,rfl⟩:=qbie hp
 cases h
theorem qqv {w r:List UInt8} (hw:w≠[]) (ho:onsW w = true) (hd:qb8 (w.getD 0 0).toNat = false) (h39:decide (((w.getD 0 0).toNat:Int) = 39) = false) (hr:bnd r):tokW (w ++ r) = (tokW r).map (qo3 w :: ·):=by
 have hon:onW (w.getD 0 0).toNat = true:=by
  have:=qbdm hw
  rw [ho] at this
  simp only [Bool.true_eq,Bool.and_eq_true] at this
  exact this.1
 have hw':qbz onW (w ++ r) = w.length:=q13 ho hr
 refine qqj (q1o (by rw [qia hw];exact hon)) hw ?_ rfl
 rw [q6c (by rw [qia hw];exact hd) (by rw [qia hw,hon,h39];rfl),hw',List.take_left]
theorem qbfp {w:List UInt8} (h:varW w = true):w≠[]∧onsW w = true∧qb8 (w.getD 0 0).toNat = false∧decide (((w.getD 0 0).toNat:Int) = 39) = false∧qo3 w = ⟨1,0,0,w⟩:=by
 simp only [varW,Bool.and_eq_true,decide_eq_true_eq,Bool.not_eq_true'] at h
 obtain ⟨⟨⟨⟨h1,h2⟩,h3⟩,h4⟩,h5⟩:=h
 have hs:((w.getD 0 0).toNat:Int) = 95∨(97≤((w.getD 0 0).toNat:Int)∧((w.getD 0 0).toNat:Int)≤122):=by
  simp only [qtl,Bool.or_eq_true,Bool.and_eq_true,decide_eq_true_eq] at h3;omega
 have hc:conW w = false:=by
  simp only [conW,qpb]
  have:(decide (65≤((w.getD 0 0).toNat:Int)) && decide (((w.getD 0 0).toNat:Int)≤90)) = false:=by
   simp only [Bool.and_eq_false_iff,decide_eq_false_iff_not];omega
  rw [this];simp
 refine ⟨h1,h4,?_,decide_eq_false (by omega),?_⟩
 ·simp only [qb8,Bool.and_eq_false_iff,decide_eq_false_iff_not];omega
 ·rw [qo3,q3q,if_neg h2,h5,hc];rfl
theorem qbfo {w:List UInt8} (h:conW w = true):w≠[]∧onsW w = true∧qb8 (w.getD 0 0).toNat = false∧decide (((w.getD 0 0).toNat:Int) = 39) = false∧qo3 w = ⟨2,0,0,w⟩:=by
 have h':=h
 simp only [conW,Bool.and_eq_true,decide_eq_true_eq] at h
 obtain ⟨⟨h1,h3⟩,h4⟩:=h
 have hs:65≤((w.getD 0 0).toNat:Int)∧((w.getD 0 0).toNat:Int)≤90:=by
  simpa only [qpb,Bool.and_eq_true,decide_eq_true_eq] using h3
 have h2:w≠[95]:=fun e=>by rw [e] at hs;revert hs;decide
 have h5:resW w = false:=by
  apply Bool.eq_false_iff.2
  intro hr
  have:w∈wordsW:=by simpa [resW] using hr
  simp only [wordsW,List.mem_cons,List.not_mem_nil,or_false] at this
  rcases this with e | e | e | e | e | e | e | e | e | e | e<;>(rw [e] at hs;revert hs;decide)
 refine ⟨h1,h4,?_,decide_eq_false (by omega),?_⟩
 ·simp only [qb8,Bool.and_eq_false_iff,decide_eq_false_iff_not];omega
 ·rw [qo3,q3q,if_neg h2,h5,h'];rfl
theorem qoc {w r:List UInt8} (h:varW w = true) (hr:bnd r):tokW (w ++ r) = (tokW r).map ((⟨1,0,0,w⟩:T) :: ·):=by
 obtain ⟨h1,h2,h3,h4,h5⟩:=qbfp h
 rw [qqv h1 h2 h3 h4 hr,h5]
theorem qmx {w r:List UInt8} (h:conW w = true) (hr:bnd r):tokW (w ++ r) = (tokW r).map ((⟨2,0,0,w⟩:T) :: ·):=by
 obtain ⟨h1,h2,h3,h4,h5⟩:=qbfo h
 rw [qqv h1 h2 h3 h4 hr,h5]
theorem qbnk:∀ u:Nat,(digN u).all (fun c=>qb8 c.toNat) = true∧digN u≠[]:=fun u=>by
 induction u using Nat.strongRecOn with
 | _ u ih =>
   by_cases h:u < 10
   ·rw [qjp h]
    refine ⟨?_,by simp⟩
    simp only [List.all_cons,List.all_nil,Bool.and_true]
    have:(UInt8.ofNat (48 + u)).toNat = 48 + u:=by rw [UInt8.toNat_ofNat'];omega
    simp only [qb8,Bool.and_eq_true,decide_eq_true_eq];rw [this];omega
   ·rw [qtq (by omega)]
    refine ⟨?_,by simp⟩
    have h8:(UInt8.ofNat (48 + u % 10)).toNat = 48 + u % 10:=by rw [UInt8.toNat_ofNat'];omega
    have h9:((UInt8.ofNat (48 + u % 10)).toNat:Int) = 48 + (u % 10:Nat):=by rw [h8];omega
    rw [List.all_append,(ih (u / 10) (by omega)).1,Bool.true_and]
    simp only [List.all_cons,List.all_nil,Bool.and_true,qb8,Bool.and_eq_true,decide_eq_true_eq]
    rw [h9];omega
theorem qz5:∀ (a b:List UInt8) (k:Int),(qgz k a).2 = 0->qgz k (a ++ b) = qgz (qgz k a).1 b
 | [],b,k,_=>rfl
 | c :: r, b, k, h => by
   rw [List.cons_append]
   rw [qgz] at h ⊢
   split
   ·rename_i hc;rw [if_pos hc] at h;simp at h
   ·rename_i hc
    rw [if_neg hc] at h
    rw [qz5 r b _ h]
    conv=>rhs;rw [qgz,if_neg hc]
theorem q9w:∀ u:Nat,u≤9223372036854775807->qgz 0 (digN u) = ((u:Int),0):=fun u=>by
 induction u using Nat.strongRecOn with
 | _ u ih =>
   intro hu
   have hdig:∀ d:Nat,d < 10->digV (UInt8.ofNat (48 + d)) = (d:Int):=fun d hd=>by
    have h8:(UInt8.ofNat (48 + d)).toNat = 48 + d:=by rw [UInt8.toNat_ofNat'];omega
    unfold digV
    rw [h8,qcfb (by omega) (by omega),qud (by omega) (by omega)];omega
   have htop:∀ d:Nat,d < 10->topV (UInt8.ofNat (48 + d)) = (9223372036854775807 - (d:Int)) / 10:=fun d hd=>by
    unfold topV
    rw [hdig d hd]
    have e1:IntKind.i64.wrap (9223372036854775807 - (d:Int)) = 9223372036854775807 - (d:Int):=qud (by omega) (by omega)
    rw [e1,Int.tdiv_eq_ediv_of_nonneg (by omega)];exact qud (by omega) (by omega)
   have hnx:∀ (d:Nat) (k:Int),d < 10->0≤k->10 * k + d≤9223372036854775807->nxtV k (UInt8.ofNat (48 + d)) = 10 * k + d:=fun d k hd hk hb=>by
    unfold nxtV
    rw [hdig d hd]
    have e1:IntKind.i64.wrap (10 * k) = 10 * k:=qud (by omega) (by omega)
    rw [e1];exact qud (by omega) (by omega)
   by_cases h:u < 10
   ·rw [qjp h,qgz,htop u h,if_neg (by omega),hnx u 0 h (by omega) (by omega),qgz]
    simp
   ·have h1:=ih (u / 10) (by omega) (by omega)
    rw [qtq h,qz5 _ _ _ (by rw [h1]),h1]
    dsimp only
    rw [qgz,htop (u % 10) (by omega),if_neg (by omega),hnx (u % 10) _ (by omega) (by omega) (by omega),qgz]
    congr 1
    omega
theorem qbc4 {m:Int} {r:List UInt8} (h0:0≤m) (h1:m≤9223372036854775807) (hr:bnd r):tokW (digI m ++ r) = (tokW r).map ((⟨3,0,m,digI m⟩:T) :: ·):=by
 obtain ⟨u,rfl⟩:∃ u:Nat,m = u:=⟨m.toNat,by omega⟩
 rw [qbjr]
 obtain ⟨ha,hne⟩:=qbnk u
 have hd:qb8 (((digN u).getD 0 0).toNat:Int) = true:=by
  cases hx:digN u with
  | nil=>exact absurd hx hne
  | cons c w=>rw [hx] at ha;simp only [List.all_cons,Bool.and_eq_true] at ha;exact ha.1
 have hrd:qb8 ((r.getD 0 0).toNat:Int) = false:=by
  unfold bnd onW at hr
  simp only [Bool.or_eq_false_iff] at hr
  exact hr.1.2
 have hw':qbz qb8 (digN u ++ r) = (digN u).length:=q13 ha hrd
 refine qqj (q1o ?_) hne ?_ rfl
 ·rw [qia hne];unfold onW;rw [hd];simp
 ·rw [qys (by rw [qia hne];exact hd),hw',List.take_left,qku hne ha,q9w u (by omega)]
def mkT (w:List UInt8):T:=⟨5,0,0,w⟩
def rsT (w:List UInt8):T:=⟨4,0,0,w⟩
theorem qfn {w r:List UInt8} (hm:∀ r,quh (w ++ r) = w.length) (hw:w≠[]) (h0:onW ((w.getD 0 0).toNat:Int) = false) (h1:qee ((w.getD 0 0).toNat:Int) = false) (h2:∀ r,pfx [45,45] (w ++ r) = false):tokW (w ++ r) = (tokW r).map (mkT w :: ·):=by
 have hd:qb8 (((w ++ r).getD 0 0).toNat:Int) = false:=by
  rw [qia hw]
  unfold onW at h0
  simp only [Bool.or_eq_false_iff] at h0
  exact h0.1.2
 have ho:(onW (((w ++ r).getD 0 0).toNat:Int) && !decide ((((w ++ r).getD 0 0).toNat:Int) = 39)) = false:=by rw [qia hw,h0];rfl
 have hp:=List.length_pos_iff.2 hw
 refine qqj (qo4 (h2 r) (qxq (by rw [qia hw];exact h1))) hw ?_ rfl
 rw [qoq hd ho (by rw [hm r];omega),hm r,List.take_left];rfl
theorem qcdv {r:List UInt8}:tokW (40 :: r) = (tokW r).map (mkT [40] :: ·):=qfn (w:=[40]) (fun r=>by cases r<;>rfl) (by decide) rfl rfl (fun r=>by cases r<;>rfl)

def Wd (s:List UInt8) (ts:List T):Prop:=∀ r,bnd r->tokW (s ++ r) = (tokW r).map (ts ++ ·)
theorem qbf2 (a b:List T) (o:Option (List T)):(o.map (b ++ ·)).map (a ++ ·) = o.map (a ++ b ++ ·):=by
 cases o<;>simp
theorem map_cons (t:T) (b:List T) (o:Option (List T)):(o.map (b ++ ·)).map (t :: ·) = o.map (t :: b ++ ·):=by
 cases o<;>simp
theorem map_nil (o:Option (List T)):o.map (([]:List T) ++ ·) = o:=by cases o<;>simp
theorem Wd.get {s:List UInt8} {ts:List T} (h:Wd s ts):tokW s = some ts:=by
 have:=h [] rfl
 rwa [List.append_nil,qbgz,Option.map_some,List.append_nil] at this
def tkT (n:N):List T:=(tokW (ptT n)).getD []
theorem qdu (r:List UInt8):bnd (32 :: r):=rfl
theorem qcex (r:List UInt8):bnd (41 :: r):=rfl
theorem qccw (r:List UInt8):bnd (44 :: r):=rfl
theorem qbp2 (r:List UInt8):bnd (59 :: r):=rfl
theorem qch {r:List UInt8}:tokW (32 :: r) = tokW r:=qyk rfl
theorem qcec {r:List UInt8}:tokW (41 :: r) = (tokW r).map (mkT [41] :: ·):=qfn (w:=[41]) (fun r=>by cases r<;>rfl) (by decide) rfl rfl (fun r=>by cases r<;>rfl)
theorem qbc1 {r:List UInt8}:tokW (123 :: r) = (tokW r).map (mkT [123] :: ·):=qfn (w:=[123]) (fun r=>by cases r<;>rfl) (by decide) rfl rfl (fun r=>by cases r<;>rfl)
theorem qbdd {r:List UInt8}:tokW (125 :: r) = (tokW r).map (mkT [125] :: ·):=qfn (w:=[125]) (fun r=>by cases r<;>rfl) (by decide) rfl rfl (fun r=>by cases r<;>rfl)
theorem qbo4 {r:List UInt8}:tokW (59 :: r) = (tokW r).map (mkT [59] :: ·):=qfn (w:=[59]) (fun r=>by cases r<;>rfl) (by decide) rfl rfl (fun r=>by cases r<;>rfl)
theorem qci8 {r:List UInt8}:tokW (44 :: r) = (tokW r).map (mkT [44] :: ·):=qfn (w:=[44]) (fun r=>by cases r<;>rfl) (by decide) rfl rfl (fun r=>by cases r<;>rfl)
theorem qcg4 {r:List UInt8}:tokW (92 :: r) = (tokW r).map (mkT [92] :: ·):=qfn (w:=[92]) (fun r=>by cases r<;>rfl) (by decide) rfl rfl (fun r=>by cases r<;>rfl)
theorem qb5j {r:List UInt8}:tokW (124 :: r) = (tokW r).map (mkT [124] :: ·):=qfn (w:=[124]) (fun r=>by cases r<;>rfl) (by decide) rfl rfl (fun r=>by cases r<;>rfl)
theorem qbdg {r:List UInt8}:tokW (45 :: 62 :: r) = (tokW r).map (mkT [45,62] :: ·):=qfn (w:=[45,62]) (fun r=>by cases r<;>rfl) (by decide) rfl rfl (fun r=>by cases r<;>rfl)
theorem qcgr {r:List UInt8}:tokW (61 :: 62 :: r) = (tokW r).map (mkT [61,62] :: ·):=qfn (w:=[61,62]) (fun r=>by cases r<;>rfl) (by decide) rfl rfl (fun r=>by cases r<;>rfl)
theorem qcim {r:List UInt8}:tokW (58 :: 58 :: r) = (tokW r).map (mkT [58,58] :: ·):=qfn (w:=[58,58]) (fun r=>by cases r<;>rfl) (by decide) rfl rfl (fun r=>by cases r<;>rfl)
theorem qbox {r:List UInt8}:tokW (61 :: 32 :: r) = (tokW r).map (mkT [61] :: ·):=by
 have h:tokW ([61] ++ 32 :: r) = (tokW (32 :: r)).map (mkT [61] :: ·):=by
  refine qqj (t:=mkT [61]) (qo4 (by cases r<;>rfl) rfl) (by decide) ?_ rfl
  rw [qoq (by rfl) (by rfl) (by cases r<;>(intro h;cases h))]
  cases r<;>rfl
 rw [qch] at h
 exact h
theorem qho {w r:List UInt8} (hw:w≠[]) (ho:onsW w = true) (hd:qb8 (w.getD 0 0).toNat = false) (h39:decide (((w.getD 0 0).toNat:Int) = 39) = false) (hn:qo3 w = rsT w) (hr:bnd r):tokW (w ++ r) = (tokW r).map (rsT w :: ·):=by
 rw [qqv hw ho hd h39 hr,hn]
def cloK (b:Bool) (ts:List T):List T:=if b = true then ts else mkT [40] :: (ts ++ [mkT [41]])
theorem qna {s:List UInt8} {ts:List T} (h:Wd s ts) (b:Bool):Wd (cloW b s) (cloK b ts):=by
 intro r hr
 cases b with
 | true=>exact h r hr
 | false =>
   show tokW (40 :: (s ++ [41]) ++ r) = _
   rw [List.cons_append,qcdv,List.append_assoc,List.singleton_append,h _ (qcex r),qcec]
   cases tokW r<;>simp [cloK]
def qjb (n:N):T:=⟨if n.kind = 1 then 1 else 2,0,0,n.text⟩
def atK (n:N):List T:=cloK (qbi n) (tkT n)
theorem qwy {f:N->List UInt8} {g:N->List T}:∀ (l:List N),(∀ x∈l,Wd (f x) (g x))->∀ r,bnd r->bnd ((l.map fun x=>32 :: f x).flatten ++ r)∧tokW ((l.map fun x=>32 :: f x).flatten ++ r) = (tokW r).map ((l.map g).flatten ++ ·)
 | [],_,r,hr=>⟨hr,(map_nil _).symm⟩
 | x :: l, h, r, hr => by
   obtain ⟨h1,h2⟩:=qwy l (fun y hy=>h y (by simp [hy])) r hr
   simp only [List.map_cons,List.flatten_cons,List.append_assoc,List.cons_append]
   refine ⟨qdu _,?_⟩
   rw [qch,h x (by simp) _ h1,h2,qbf2]
   cases tokW r<;>simp
theorem qih {n:N} (h:tyW n = true) (ha:n.kind≠1∧n.text = arW):n.kids.length = 2∧tyW (n.kids.getD 0 N0) = true∧tyW (n.kids.getD 1 N0) = true:=by
 rw [q0e,if_neg ha.1] at h
 split at h
 ·rename_i h2
  rw [if_pos (show n.text = [45,62] from ha.2),Bool.and_eq_true,decide_eq_true_eq] at h
  have hl:n.kids.length = 2:=by omega
  rw [List.all_eq_true] at h
  exact ⟨hl,h.2 _ (qi (by omega)),h.2 _ (qi (by omega))⟩
 ·cases h
theorem qkc {n:N} (h:tyW n = true) (ha:¬ (n.kind≠1∧n.text = arW)):(n.kind = 1∧varW n.text = true∧n.kids = []∨n.kind = 2∧conW n.text = true)∧n.num = 0∧∀ x∈n.kids,tyW x = true:=by
 rw [q0e] at h
 by_cases h1:n.kind = 1
 ·rw [if_pos h1,Bool.and_eq_true,Bool.and_eq_true,decide_eq_true_eq,decide_eq_true_eq] at h
  have h0:n.kids = []:=List.length_eq_zero_iff.1 (by omega)
  exact ⟨.inl ⟨h1,h.1.2,h0⟩,h.1.1,by rw [h0];intro x hx;cases hx⟩
 ·rw [if_neg h1] at h
  split at h
  ·rename_i h2
   rw [if_neg (fun e:n.text = [45,62]=>ha ⟨h1,e⟩),Bool.and_eq_true,List.all_eq_true] at h
   exact ⟨.inr ⟨h2.1,h.1⟩,h2.2,h.2⟩
  ·cases h
theorem qbsl {n:N} (h:n.kind = 1∧varW n.text = true∧n.kids = []∨n.kind = 2∧conW n.text = true):Wd n.text [qjb n]:=by
 intro r hr
 rcases h with ⟨h1,h2,_⟩ | ⟨h1,h2⟩
 ·rw [qoc h2 hr,qjb,if_pos h1];cases tokW r<;>rfl
 ·rw [qmx h2 hr,qjb,if_neg (by omega)];cases tokW r<;>rfl
def tkT' (n:N):List T:=if n.kind≠1∧n.text = arW then cloK (!decide ((n.kids.getD 0 N0).text = arW)) (tkT (n.kids.getD 0 N0)) ++ mkT arW :: tkT (n.kids.getD 1 N0) else qjb n :: (n.kids.map atK).flatten
theorem wdT:∀ n,tyW n = true->Wd (ptT n) (tkT n)∧tkT n = tkT' n:=N.ind fun n ih ht=>by
 have hw:Wd (ptT n) (tkT' n):=by
  intro r hr
  by_cases ha:n.kind≠1∧n.text = arW
  ·obtain ⟨hl,t0,t1⟩:=qih ht ha
   have w0:=qna (ih _ (qi (i:=0) (by omega)) t0).1 (!decide ((n.kids.getD 0 N0).text = arW))
   have w1:=(ih _ (qi (i:=1) (by omega)) t1).1
   rw [qkf,tkT',if_pos ha,if_pos ha]
   simp only [List.append_assoc,List.cons_append,List.nil_append]
   rw [w0 _ (qdu _),qch,qbdg,qch,w1 r hr]
   cases tokW r<;>simp [arW]
  ·obtain ⟨hn,_,hk⟩:=qkc ht ha
   rw [qkf,tkT',if_neg ha,if_neg ha,List.append_assoc]
   obtain ⟨h1,h2⟩:=qwy (f:=fun x=>cloW (qbi x) (ptT x)) (g:=atK) n.kids (fun x hx=>qna (ih x hx (hk x hx)).1 _) r hr
   have e:n.kids.map atT = n.kids.map fun x=>32 :: cloW (qbi x) (ptT x):=rfl
   rw [e,qbsl hn _ h1]
   refine (congrArg _ h2).trans ?_
   cases tokW r<;>simp
 have he:tkT n = tkT' n:=by rw [tkT,hw.get];rfl
 exact ⟨by rw [he];exact hw,he⟩

def Ah (c:K) (ts:List T):Prop:=c.err = 0∧(remT c).map bare = ts
section
variable {c:K} {t:T} {r ts:List T}
theorem Ah.len (h:Ah c ts):rest c = ts.length:=by rw [← qbha,← h.2,List.length_map]
theorem Ah.cons (h:Ah c (t :: r)):bare (qp c) = t∧Ah (qg c) r∧(qg c).nest = c.nest:=by
 obtain ⟨h1,h2⟩:=h
 cases hr:remT c with
 | nil=>rw [hr] at h2;cases h2
 | cons u s =>
   rw [hr,List.map_cons] at h2
   obtain ⟨e1,e2⟩:=List.cons.inj h2
   obtain ⟨p1,_⟩:=qz3 hr h1
   obtain ⟨n1,n2,n3⟩:=qbbt hr h1
   exact ⟨by rw [p1];exact e1,⟨n2,by rw [n1];exact e2⟩,n3⟩
theorem Ah.nil (h:Ah c []):(qp c).kind = 0∧∀ x,isK c x = false:=by
 have hr:remT c = []:=List.map_eq_nil_iff.1 h.2
 have hp:=qbh1 hr h.1
 refine ⟨by rw [hp],fun x=>?_⟩
 unfold isK qcg
 rw [hp];simp
theorem Ah.kind (h:Ah c (t :: r)):(qp c).kind = t.kind:=qs6 (t:=qp c) (t':=bare (qp c)) rfl |>.trans (by rw [h.cons.1])
theorem Ah.text (h:Ah c (t :: r)):(qp c).text = t.text:=qsx (t:=qp c) (t':=bare (qp c)) rfl |>.trans (by rw [h.cons.1])
theorem Ah.num (h:Ah c (t :: r)):(qp c).num = t.num:=qbk8 (t:=qp c) (t':=bare (qp c)) rfl |>.trans (by rw [h.cons.1])
theorem Ah.is (h:Ah c (t :: r)) (x:List UInt8):isK c x = qcg t x:=by
 unfold isK qcg
 rw [h.1,h.kind,h.text];simp
theorem Ah.take (h:Ah c (t :: r)) {x:List UInt8} (hx:qcg t x = true):qf c x = (qg c,true):=qbab (by rw [h.is];exact hx)
theorem Ah.leave_it (h:Ah c (t :: r)) {x:List UInt8} (hx:qcg t x = false):qf c x = (c,false):=qkq (by rw [h.is];exact hx)
theorem Ah.want (h:Ah c (t :: r)) {x:List UInt8} (hx:qcg t x = true):qh c x = (qg c,true):=if_pos (by rw [h.is];exact hx)
theorem Ah.enter (h:Ah c ts) (hn:c.nest < 200):(qb c).2 = true∧Ah (qb c).1 ts∧(qb c).1.nest = c.nest + 1:=by
 rw [qzc h.1 (by omega)]
 exact ⟨rfl,h,rfl⟩
theorem Ah.leave (h:Ah c ts) {m:Nat} (hn:c.nest = m + 1):Ah (qcn c) ts∧(qcn c).nest = m:=by
 rw [q0f h.1 (by omega)]
 exact ⟨h,by show c.nest - 1 = m;omega⟩
end
theorem qfw {x n:N} (h1:x.kind = n.kind) (h2:x.num = n.num) (h3:x.text = n.text) (h4:x.kids.map qk = n.kids.map qk):NS x n:=by
 unfold NS
 rw [qeq,qeq,qf1,qf1,h1,h2,h3,h4]
def Got (c:K) (p:K×Option N) (n:N) (r:List T):Prop:=∃ x,p.2 = some x∧NS x n∧Ah p.1 r∧p.1.nest = c.nest
def NoA (r:List T):Prop:=∀ t s,r = t :: s->t.kind≠1∧t.kind≠2∧qcg t [40] = false
def NoR (r:List T):Prop:=∀ t s,r = t :: s->qcg t arW = false
theorem qmf {w:List UInt8} {s:List T} (h:w≠[40]):NoA (mkT w :: s):=fun t s' e=>by
 obtain ⟨rfl,_⟩:=List.cons.inj e
 exact ⟨by show (5:Int)≠1;decide,by show (5:Int)≠2;decide,by simp [qcg,mkT,h]⟩
theorem qph {w:List UInt8} {s:List T} (h:w≠arW):NoR (mkT w :: s):=fun t s' e=>by
 obtain ⟨rfl,_⟩:=List.cons.inj e
 simp [qcg,mkT,h]
theorem qcb (w:List UInt8):qcg (mkT w) w = true:=by simp [qcg,mkT]
theorem qqp {n:N} (ht:tyW n = true) (hl:qbi n = true):tkT n = [qjb n]∧(n.kind = 1∨n.kind = 2)∧n.num = 0:=by
 have hk:n.kids = []:=of_decide_eq_true hl
 have ha:¬ (n.kind≠1∧n.text = arW):=fun ha=>by have:=(qih ht ha).1;rw [hk] at this;cases this
 obtain ⟨hn,h0,_⟩:=qkc ht ha
 refine ⟨by rw [(wdT n ht).2,tkT',if_neg ha,hk];rfl,?_,h0⟩
 rcases hn with h | h
 ·exact .inl h.1
 ·exact .inr h.1
section
variable {rec:K->K×Option N}
theorem q5n {n:N} (ht:tyW n = true) {c:K} {r:List T} (h:Ah c (atK n ++ r)) (hn:qbi n = false->c.nest < 200)
 (ih:qbi n = false->∀ d,Ah d (tkT n ++ mkT [41] :: r)->d.nest = c.nest + 1->Got d (rec d) n (mkT [41] :: r)):Got c (qbg rec c) n r:=by
 unfold qbg
 cases hl:qbi n with
 | true =>
   obtain ⟨e1,e2,e3⟩:=qqp ht hl
   have hk:n.kids = []:=of_decide_eq_true hl
   rw [atK,hl,cloK,if_pos rfl,e1,List.singleton_append] at h
   obtain ⟨_,h2,h3⟩:=h.cons
   have hki:=h.kind
   have hte:=h.text
   rcases e2 with e2 | e2
   ·rw [if_pos (by rw [hki,qjb,if_pos e2])]
    exact ⟨_,rfl,qfw e2.symm e3.symm hte (by rw [hk];rfl),h2,h3⟩
   ·rw [if_neg (by rw [hki,qjb,if_neg (by omega)];show ¬ (2:Int) = 1;decide),if_pos (by rw [hki,qjb,if_neg (by omega)])]
    exact ⟨_,rfl,qfw e2.symm e3.symm hte (by rw [hk];rfl),h2,h3⟩
 | false =>
   rw [atK,hl,cloK,if_neg Bool.false_ne_true,List.cons_append,List.append_assoc,List.singleton_append] at h
   have hki:=h.kind
   rw [if_neg (by rw [hki];decide),if_neg (by rw [hki];decide),if_pos (by rw [h.is];exact qcb _)]
   obtain ⟨n1,n2,n3⟩:=h.enter (hn hl)
   rw [if_pos n1]
   obtain ⟨_,q1,q2⟩:=n2.cons
   obtain ⟨x,g1,g2,g3,g4⟩:=ih hl _ q1 (q2.trans n3)
   rw [if_pos (by rw [g1];rfl),g3.want (qcb _)]
   dsimp only
   rw [if_pos rfl]
   obtain ⟨_,q3,q4⟩:=g3.cons
   obtain ⟨l1,l2⟩:=q3.leave (m:=c.nest) (by rw [q4,g4,q2,n3])
   exact ⟨x,g1,g2,l1,l2⟩
theorem qqe {n:N} (ht:tyW n = true):∃ t s,atK n = t :: s∧(t.kind = 1∨t.kind = 2∨qcg t [40] = true):=by
 cases hl:qbi n with
 | true =>
   obtain ⟨e1,e2,e3⟩:=qqp ht hl
   refine ⟨qjb n,[],by rw [atK,hl,cloK,if_pos rfl,e1],?_⟩
   unfold qjb
   dsimp only
   rcases e2 with e | e
   ·rw [if_pos e];exact .inl rfl
   ·rw [if_neg (by omega)];exact .inr (.inl rfl)
 | false=>exact ⟨_,_,by rw [atK,hl,cloK,if_neg Bool.false_ne_true],.inr (.inr (qcb _))⟩
theorem q6i:∀ (l:List N) (f:Nat) (c:K) (acc:List N) (r:List T),(∀ x∈l,tyW x = true)->Ah c ((l.map atK).flatten ++ r)->NoA r->l.length < f →
 (∀ x∈l,qbi x = false->c.nest < 200)->(∀ x∈l,qbi x = false->∀ d s,Ah d (tkT x ++ mkT [41] :: s)->rest d < rest c->d.nest = c.nest + 1->Got d (rec d) x (mkT [41] :: s)) →
 ∃ xs,(qcq rec f c acc).2 = some (acc ++ xs)∧xs.map qk = l.map qk∧Ah (qcq rec f c acc).1 r∧(qcq rec f c acc).1.nest = c.nest
 | l,0,c,acc,r,_,_,_,hf,_,_=>by omega
 | [], f + 1, c, acc, r, _, h, hr, _, _, _ => by
   rw [qcq]
   have hb:begT c = false:=by
    unfold begT
    cases r with
    | nil=>obtain ⟨e1,e2⟩:=Ah.nil h;rw [e1,e2];rfl
    | cons t s =>
      have h:Ah c (t :: s):=h
      obtain ⟨e1,e2,e3⟩:=hr t s rfl
      rw [h.kind,h.is,e3,decide_eq_false e1,decide_eq_false e2];rfl
   rw [hb,if_neg Bool.false_ne_true]
   exact ⟨[],by simp,rfl,h,rfl⟩
 | x :: l, f + 1, c, acc, r, ht, h, hr, hf, hn, ih => by
   rw [qcq]
   rw [List.map_cons,List.flatten_cons,List.append_assoc] at h
   obtain ⟨t,s,e1,e2⟩:=qqe (ht x (by simp))
   have hb:begT c = true:=by
    unfold begT
    rw [e1,List.cons_append] at h
    rw [h.kind,h.is]
    rcases e2 with e | e | e<;>simp [e]
   rw [if_pos hb]
   have hlen:=h.len
   obtain ⟨y,g1,g2,g3,g4⟩:=q5n (rec:=rec) (ht x (by simp)) h (hn x (by simp)) fun hlf d hd hdn=>ih x (by simp) hlf d _ hd (by
    rw [hd.len,hlen,atK,hlf,cloK,if_neg Bool.false_ne_true]
    simp) hdn
   rw [if_pos (by rw [g1];rfl),g1]
   have hl2:rest (qbg rec c).1≤rest c:=by rw [g3.len,hlen];simp
   obtain ⟨xs,k1,k2,k3,k4⟩:=q6i l f _ (acc ++ [y]) r (fun z hz=>ht z (by simp [hz])) g3 hr (by simp at hf;omega) (fun z hz hl=>by rw [g4];exact hn z (by simp [hz]) hl) fun z hz hl d s hd hdr hdn=>ih z (by simp [hz]) hl d s hd (by omega) (by rw [hdn,g4])
   refine ⟨y :: xs,?_,?_,k3,k4.trans g4⟩
   ·dsimp only [Option.getD_some];rw [k1];simp
   ·rw [List.map_cons,List.map_cons,k2];exact congrArg (· :: _) g2
theorem qbfl {n:N} (ht:tyW n = true) (ha:¬ (n.kind≠1∧n.text = arW)) {c:K} {r:List T} (h:Ah c (tkT n ++ r)) (hr:NoA r)
 (hn:∀ x∈n.kids,qbi x = false->c.nest < 200) (ih:∀ x∈n.kids,qbi x = false->∀ d s,Ah d (tkT x ++ mkT [41] :: s)->rest d < rest c->d.nest = c.nest + 1->Got d (rec d) x (mkT [41] :: s)):Got c (qbq rec c) n r:=by
 obtain ⟨hn',h0,hk⟩:=qkc ht ha
 have he:=(wdT n ht).2
 rw [tkT',if_neg ha] at he
 rw [he,List.cons_append] at h
 obtain ⟨_,h2,h3⟩:=h.cons
 have hki:=h.kind
 have hte:=h.text
 have hlen:=h.len
 unfold qbq
 rcases hn' with ⟨k1,_,k3⟩ | ⟨k1,_⟩
 ·rw [if_neg (by rw [hki,qjb,if_pos k1];show ¬ (1:Int) = 2;decide)]
  unfold qbg
  rw [if_pos (by rw [hki,qjb,if_pos k1])]
  rw [k3] at h2
  exact ⟨_,rfl,qfw k1.symm h0.symm hte (by rw [k3];rfl),h2,h3⟩
 ·rw [if_pos (by rw [hki,qjb,if_neg (by omega)])]
  have hf:n.kids.length < rest c + 1:=by
   have:n.kids.length≤(n.kids.map atK).flatten.length:=by
    have hp:∀ l:List N,(∀ x∈l,tyW x = true)->l.length≤(l.map atK).flatten.length:=fun l=>by
     induction l with
     | nil=>intro _;exact Nat.le_refl _
     | cons x l ihl =>
       intro hx
       obtain ⟨t,s,e1,_⟩:=qqe (hx x (by simp))
       have:=ihl fun y hy=>hx y (by simp [hy])
       simp only [List.map_cons,List.flatten_cons,List.length_append,List.length_cons,e1]
       omega
    exact hp _ hk
   rw [hlen];simp only [List.length_cons,List.length_append];omega
  have hlt:rest (qg c) < rest c:=by rw [h2.len,hlen];simp
  obtain ⟨xs,g1,g2,g3,g4⟩:=q6i (rec:=rec) n.kids (rest c + 1) (qg c) [] r hk h2 hr hf (fun x hx hl=>by rw [h3];exact hn x hx hl) fun x hx hl d s hd hdr hdn=>ih x hx hl d s hd (by omega) (by rw [hdn,h3])
  rw [List.nil_append] at g1
  refine ⟨qgr c 2 xs,by rw [g1];rfl,qfw k1.symm h0.symm hte g2,g3,g4.trans h3⟩
end
theorem qcx {n x:N} (h:x∈n.kids):dp x + 1≤dp n:=by
 rw [qra n]
 have:∀ l:List N,x∈l->dp x≤dps l:=fun l=>by
  induction l with
  | nil=>intro h;cases h
  | cons y l ih =>
    intro h
    rw [dps]
    rcases List.mem_cons.1 h with rfl | h
    ·omega
    ·have:=ih h;omega
 have:=this _ h
 omega
theorem qk2 (n:N):1≤dp n:=by rw [qra];omega
theorem qx5 {n:N} (h:qbi n = false):2≤dp n:=by
 cases hk:n.kids with
 | nil=>rw [qbi,decide_eq_true hk] at h;cases h
 | cons x l=>have h1:=qcx (n:=n) (x:=x) (by rw [hk];simp);have:=qk2 x;omega
theorem qcg9 {s:List T}:NoA (mkT arW :: s):=qmf (by decide)
theorem qpq:∀ (f:Nat) (n:N) (c:K) (r:List T),tyW n = true->Ah c (tkT n ++ r)->NoA r->NoR r->rest c < f->c.nest + 2 * dp n≤201->Got c (qbe f c) n r
 | 0,n,c,r,_,_,_,_,hf,_=>by omega
 | f + 1, n, c, r, ht, h, hr, hr', hf, hd => by
   have hp:=qk2 n
   rw [qbe]
   obtain ⟨n1,n2,n3⟩:=h.enter (by omega)
   rw [if_pos n1]
   have hc1:rest (qb c).1 = rest c:=by rw [n2.len,h.len]
   have hih:∀ m:N,dp m + 1≤dp n->∀ x∈m.kids,qbi x = false->tyW x = true->∀ d s,Ah d (tkT x ++ mkT [41] :: s)->rest d < rest (qb c).1->d.nest = (qb c).1.nest + 1->Got d (qbe f d) x (mkT [41] :: s):=fun m hm x hx hl hxt d s hd' hdr hdn =>
    qpq f x d _ hxt hd' (qmf (by decide)) (qph (by decide)) (by omega) (by have:=qcx hx;omega)
   by_cases ha:n.kind≠1∧n.text = arW
   ·obtain ⟨hl,t0,t1⟩:=qih ht ha
    have m0:=qi (l:=n.kids) (i:=0) (by omega)
    have m1:=qi (l:=n.kids) (i:=1) (by omega)
    have d0:=qcx m0
    have d1:=qcx m1
    have he:=(wdT n ht).2
    rw [tkT',if_pos ha] at he
    rw [he,List.append_assoc,List.cons_append] at n2
    have hG:Got (qb c).1 (qbq (qbe f) (qb c).1) (n.kids.getD 0 N0) (mkT arW :: (tkT (n.kids.getD 1 N0) ++ r)):=by
     by_cases hb:(n.kids.getD 0 N0).text = arW
     ·rw [decide_eq_true hb] at n2
      have hk2:(n.kids.getD 0 N0).kind≠1:=fun e=>by
       have:=t0
       rw [q0e,if_pos e,hb] at this
       simp only [Bool.and_eq_true] at this
       have:=this.1.2
       revert this;decide
      have hlf:qbi (n.kids.getD 0 N0) = false:=by
       obtain ⟨q,_,_⟩:=qih t0 ⟨hk2,hb⟩
       apply decide_eq_false
       intro e;rw [e] at q;cases q
      have hat:atK (n.kids.getD 0 N0) = cloK (!true) (tkT (n.kids.getD 0 N0)):=by rw [atK,hlf];rfl
      rw [← hat] at n2
      have hrw:qbq (qbe f) (qb c).1 = qbg (qbe f) (qb c).1:=by
       unfold qbq
       have n2':=n2
       rw [hat] at n2'
       rw [if_neg (by rw [Ah.kind (t:=mkT [40]) n2'];decide)]
      rw [hrw]
      have hlen:=n2.len
      have h2:=qx5 hlf
      refine q5n t0 n2 (fun _=>by omega) fun _ d hd' hdn=>qpq f _ d _ t0 hd' (qmf (by decide)) (qph (by decide)) ?_ (by omega)
      have:rest d < rest (qb c).1:=by
       rw [hd'.len,hlen,hat]
       simp [cloK]
      omega
     ·rw [decide_eq_false hb] at n2
      have ha0:¬ ((n.kids.getD 0 N0).kind≠1∧(n.kids.getD 0 N0).text = arW):=fun h=>hb h.2
      obtain ⟨_,_,hkk⟩:=qkc t0 ha0
      exact qbfl t0 ha0 n2 qcg9 (fun x hx hl=>by have:=qcx hx;have:=qk2 x;omega) fun x hx hl d s hd' hdr hdn=>hih _ d0 x hx hl (hkk x hx) d s hd' hdr hdn
    obtain ⟨x,g1,g2,g3,g4⟩:=hG
    rw [if_pos (by rw [g1];rfl),g3.take (x:=[45,62]) (qcb _)]
    dsimp only
    rw [if_pos rfl,g1]
    obtain ⟨_,q1,q2⟩:=g3.cons
    have hlt:rest (qg (qbq (qbe f) (qb c).1).1) < rest c:=by
     rw [← hc1,q1.len,n2.len]
     simp only [List.length_append,List.length_cons];omega
    obtain ⟨y,k1,k2,k3,k4⟩:=qpq f _ _ r t1 q1 hr hr' (by omega) (by rw [q2,g4,n3];omega)
    rw [k1]
    obtain ⟨l1,l2⟩:=k3.leave (m:=c.nest) (by rw [k4,q2,g4,n3])
    refine ⟨qiz x y,rfl,?_,l1,l2⟩
    have hk2:n.kind = 2∧n.num = 0:=by
     have:=ht
     rw [q0e,if_neg ha.1] at this
     split at this
     ·assumption
     ·cases this
    refine qfw hk2.1.symm hk2.2.symm ha.2.symm ?_
    have hks:n.kids = [n.kids.getD 0 N0,n.kids.getD 1 N0]:=by
     cases hq:n.kids with
     | nil=>rw [hq] at hl;cases hl
     | cons a l => cases l with
       | nil=>rw [hq] at hl;cases hl
       | cons b l => cases l with
         | nil=>rfl
         | cons _ _=>rw [hq] at hl;simp at hl
    rw [hks]
    show [qk x,qk y] = [qk _,qk _]
    rw [show qk x = qk (n.kids.getD 0 N0) from g2,show qk y = qk (n.kids.getD 1 N0) from k2]
   ·obtain ⟨_,_,hkk⟩:=qkc ht ha
    obtain ⟨x,g1,g2,g3,g4⟩:=qbfl (rec:=qbe f) ht ha n2 hr (fun x hx hl=>by have:=qcx hx;have:=qk2 x;omega) fun x hx hl d s hd' hdr hdn =>
     qpq f x d _ (hkk x hx) hd' (qmf (by decide)) (qph (by decide)) (by omega) (by have:=qcx hx;omega)
    have hno:qf (qbq (qbe f) (qb c).1).1 [45,62] = ((qbq (qbe f) (qb c).1).1,false):=by
     cases r with
     | nil=>exact qkq ((Ah.nil g3).2 _)
     | cons t s=>exact Ah.leave_it g3 (hr' t s rfl)
    rw [if_pos (by rw [g1];rfl),hno]
    dsimp only
    rw [if_neg Bool.false_ne_true]
    obtain ⟨l1,l2⟩:=g3.leave (m:=c.nest) (by rw [g4,n3])
    exact ⟨x,g1,g2,l1,l2⟩
end Go.Proofs.YtlmcofjcpadmiaaGreat
