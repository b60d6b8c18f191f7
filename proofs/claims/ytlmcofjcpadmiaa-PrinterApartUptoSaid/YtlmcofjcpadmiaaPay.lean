/- Texts of this proof, joined. -/
import Derived.Test.YtlmcofjcpadmiaaPaq
import Derived.Test.YtlmcofjcpadmiaaPas
import Derived.Test.YtlmcofjcpadmiaaPax
import Derived.Test.YtlmcofjcpadmiaaPaw
set_option linter.unusedVariables false
set_option linter.unusedSimpArgs false

/- trees that are written: the words of what is written (plain) -/
namespace Go.Proofs.Ytlmcofjcpadmiaa
open Go Go.RowKit Go.V

def tokG:Nat->List UInt8->Option (List T)
 | 0,_=>none
 | f + 1,l=>if l = [] then some [] else if (qca l).2 = 0 then (tokG f ((l.drop (qca l).1.text.length).drop (qcg (l.drop (qca l).1.text.length)))).map ((qca l).1 :: ·) else none
def tokW (s:List UInt8):Option (List T):=tokG (s.length + 1) (s.drop (qcg s))
theorem qja:∀ (f g:Nat) (l:List UInt8),l.length < f->l.length < g->tokG f l = tokG g l
 | 0,g,l,h,_=>by omega
 | f + 1,0,l,_,h=>by omega
 | f + 1, g + 1, l, h1, h2 => by
   rw [tokG,tokG]
   by_cases hl:l = []
   ·rw [if_pos hl,if_pos hl]
   rw [if_neg hl,if_neg hl]
   by_cases he:(qca l).2 = 0
   ·rw [if_pos he,if_pos he]
    have h0:=qoi hl he
    have h3:=qmz l
    have h4:=List.length_pos_iff.2 hl
    rw [qja f g _ (by rw [List.length_drop,List.length_drop];omega) (by rw [List.length_drop,List.length_drop];omega)]
   ·rw [if_neg he,if_neg he]
theorem qul {s:List UInt8} {f:Nat} (h:s.length < f):tokG f (s.drop (qcg s)) = tokW s:=qja _ _ _ (by rw [List.length_drop];omega) (by rw [List.length_drop];omega)
theorem qrx (l:List UInt8):bare (qca l).1 = (qca l).1:=by
 unfold qca
 split
 ·rfl
 ·split
  ·rfl
  ·split<;>rfl
theorem qqt {s:List UInt8}:∀ (f k:Nat) (ts:List T),k≤s.length->tokG f (s.drop k) = some ts->(lexF f s k).2.2 = 0∧(lexF f s k).1.map bare = ts
 | 0,k,ts,_,h=>by cases h
 | f + 1, k, ts, hk, h => by
   rw [tokG] at h
   rw [lexF]
   by_cases hl:s.drop k = []
   ·rw [if_pos hl] at h
    have:=congrArg List.length hl
    rw [List.length_drop,List.length_nil] at this
    rw [if_neg (by omega)]
    simp only [Option.some.injEq] at h
    subst h
    exact ⟨rfl,rfl⟩
   ·rw [if_neg hl] at h
    have hlt:k < s.length:=by
     have:=List.length_pos_iff.2 hl
     rw [List.length_drop] at this;omega
    rw [if_pos hlt]
    by_cases he:(qca (s.drop k)).2 = 0
    ·rw [if_pos he] at h
     rw [if_pos he]
     obtain ⟨r,h1,h2⟩:=Option.map_eq_some_iff.1 h
     have hK:((s.drop k).drop (qca (s.drop k)).1.text.length).drop (qcg ((s.drop k).drop (qca (s.drop k)).1.text.length)) = s.drop (lexK s k):=by
      have e:(s.drop k).drop (qca (s.drop k)).1.text.length = s.drop (lexN s k):=by rw [List.drop_drop];rfl
      rw [e,List.drop_drop];rfl
     rw [hK] at h1
     obtain ⟨h3,h4⟩:=qqt f (lexK s k) r (q6d hk) h1
     rw [appR,if_pos h3]
     refine ⟨h3,?_⟩
     dsimp only
     rw [List.map_append,h4,← h2]
     show bare (lexT s k) :: r = _
     rw [← qrx (s.drop k)]
     rfl
    ·rw [if_neg he] at h;cases h
theorem qzc {s:List UInt8} {ts:List T} (h:tokW s = some ts):(lexG s (qcg s)).2.2 = 0∧(lexG s (qcg s)).1.map bare = ts:=by
 have:=qqt (s.length + 1) (qcg s) ts (qp0 s) h
 rw [lexG,qig (s.length - qcg s) (s.length + 1) _ (Nat.le_refl _) (by omega)]
 exact this
theorem qmw:∀ (f:Nat) (l:List UInt8) (ts:List T),tokG f l = some ts->∀ t∈ts,t.kind≠0
 | 0,l,ts,h=>by cases h
 | f + 1, l, ts, h => by
   rw [tokG] at h
   split at h
   ·simp only [Option.some.injEq] at h;subst h;intro t ht;cases ht
   ·split at h
    ·rename_i he
     obtain ⟨r,h1,h2⟩:=Option.map_eq_some_iff.1 h
     subst h2
     intro t ht
     rcases List.mem_cons.1 ht with rfl | ht
     ·unfold qca at he ⊢
      split
      ·exact fun e=>by cases e
      ·split
       ·show qsx _≠0
        unfold qsx
        repeat' split
        all_goals decide
       ·split
        ·rename_i h1 h2 h3
         rw [if_neg h1,if_neg h2,if_pos h3] at he
         simp at he
        ·exact fun e=>by cases e
     ·exact qmw f _ r h1 t ht
    ·cases h
theorem qrm {l:List T} {t:T} (hl:∀ u∈l,u.kind≠0) (ht:t.kind = 0):qkw (l ++ [t]) = l:=by
 induction l with
 | nil=>simp [qkw,ht]
 | cons u r ih=>rw [List.cons_append,qkw,if_neg (hl u (by simp)),ih (fun v hv=>hl v (by simp [hv]))]
theorem q2w {s:List UInt8} {ts:List T} (hs:s.length≤1000000) (h:tokW s = some ts):(lexV s).2.2 = 0∧(remT (newK (lexV s).1)).map bare = ts:=by
 obtain ⟨h1,h2⟩:=qzc h
 rw [q5s (by omega) h1]
 refine ⟨rfl,?_⟩
 have hk:∀ u∈(lexG s (qcg s)).1,u.kind≠0:=fun u hu=>by
  have h3:bare u∈ts:=by rw [← h2];exact List.mem_map_of_mem hu
  have h4:=qmw _ _ _ h (bare u) h3
  exact h4
 show ((newK _).l.drop 0).map bare = ts
 rw [List.drop_zero]
 show (qkw ((lexG s (qcg s)).1 ++ [_])).map bare = ts
 rw [qrm hk rfl,h2]

/-! one word behind the other -/
def bnd (r:List UInt8):Prop:=onW ((r.getD 0 0).toNat:Int) = false
theorem q5x:tokW [] = some []:=rfl
theorem qvp {c:UInt8} {r:List UInt8} (h:qcy c.toNat = true):tokW (c :: r) = tokW r:=by
 rw [← qul (s:=r) (f:=(c :: r).length + 1) (by simp;omega)]
 show tokG _ ((c :: r).drop (qcg (c :: r))) = _
 rw [qok h,show 1 + qcg r = qcg r + 1 by omega,List.drop_succ_cons]
theorem qh5 {w r:List UInt8} {t:T} (hs:qcg (w ++ r) = 0) (hw:w≠[]) (ht:qca (w ++ r) = (t,0)) (hl:t.text.length = w.length):tokW (w ++ r) = (tokW r).map (t :: ·):=by
 rw [tokW,hs,List.drop_zero,tokG,if_neg (by simp [hw]),ht,if_pos rfl]
 dsimp only
 rw [hl,List.drop_left,qul]
 have:=List.length_pos_iff.2 hw
 rw [List.length_append];omega
theorem qmk {f:Int->Bool} {w r:List UInt8} (h:w.all (fun c=>f c.toNat) = true) (hr:f ((r.getD 0 0).toNat) = false):q9 f (w ++ r) = w.length:=by
 induction w with
 | nil=>exact qlc hr
 | cons c w ih =>
   simp only [List.all_cons,Bool.and_eq_true] at h
   rw [List.cons_append,qov h.1,ih h.2];rfl
theorem qdt {w r:List UInt8} (h:w≠[]):(w ++ r).getD 0 0 = w.getD 0 0:=by cases w with | nil=>exact absurd rfl h | cons _ _=>rfl
theorem qm1 {l:List UInt8} (h:onW (l.getD 0 0).toNat = true):qcg l = 0:=by
 have hb:qcy (l.getD 0 0).toNat = false:=by
  apply Bool.eq_false_iff.2
  intro hb
  rw [qt2] at hb
  rcases hb with e | e | e | e<;>(rw [e] at h;cases h)
 refine qg7 ?_ (qlc hb)
 apply Bool.eq_false_iff.2
 intro hp
 obtain ⟨r,rfl⟩:=qy4 hp
 cases h
theorem qh0 {w r:List UInt8} (hw:w≠[]) (ho:onsW w = true) (hd:qbr (w.getD 0 0).toNat = false) (h39:decide (((w.getD 0 0).toNat:Int) = 39) = false) (hr:bnd r):tokW (w ++ r) = (tokW r).map (qj4 w :: ·):=by
 have hon:onW (w.getD 0 0).toNat = true:=by
  have:=qth hw
  rw [ho] at this
  simp only [Bool.true_eq,Bool.and_eq_true] at this
  exact this.1
 have hw':q9 onW (w ++ r) = w.length:=qmk ho hr
 refine qh5 (qm1 (by rw [qdt hw];exact hon)) hw ?_ rfl
 rw [qxv (by rw [qdt hw];exact hd) (by rw [qdt hw,hon,h39];rfl),hw',List.take_left]
theorem qvc {w:List UInt8} (h:varW w = true):w≠[]∧onsW w = true∧qbr (w.getD 0 0).toNat = false∧decide (((w.getD 0 0).toNat:Int) = 39) = false∧qj4 w = ⟨1,0,0,w⟩:=by
 simp only [varW,Bool.and_eq_true,decide_eq_true_eq,Bool.not_eq_true'] at h
 obtain ⟨⟨⟨⟨h1,h2⟩,h3⟩,h4⟩,h5⟩:=h
 have hs:((w.getD 0 0).toNat:Int) = 95∨(97≤((w.getD 0 0).toNat:Int)∧((w.getD 0 0).toNat:Int)≤122):=by
  simp only [qnv,Bool.or_eq_true,Bool.and_eq_true,decide_eq_true_eq] at h3;omega
 have hc:conW w = false:=by
  simp only [conW,qkf]
  have:(decide (65≤((w.getD 0 0).toNat:Int)) && decide (((w.getD 0 0).toNat:Int)≤90)) = false:=by
   simp only [Bool.and_eq_false_iff,decide_eq_false_iff_not];omega
  rw [this];simp
 refine ⟨h1,h4,?_,decide_eq_false (by omega),?_⟩
 ·simp only [qbr,Bool.and_eq_false_iff,decide_eq_false_iff_not];omega
 ·rw [qj4,qsx,if_neg h2,h5,hc];rfl
theorem qtu {w:List UInt8} (h:conW w = true):w≠[]∧onsW w = true∧qbr (w.getD 0 0).toNat = false∧decide (((w.getD 0 0).toNat:Int) = 39) = false∧qj4 w = ⟨2,0,0,w⟩:=by
 have h':=h
 simp only [conW,Bool.and_eq_true,decide_eq_true_eq] at h
 obtain ⟨⟨h1,h3⟩,h4⟩:=h
 have hs:65≤((w.getD 0 0).toNat:Int)∧((w.getD 0 0).toNat:Int)≤90:=by
  simpa only [qkf,Bool.and_eq_true,decide_eq_true_eq] using h3
 have h2:w≠[95]:=fun e=>by rw [e] at hs;revert hs;decide
 have h5:resW w = false:=by
  apply Bool.eq_false_iff.2
  intro hr
  have:w∈wordsW:=by simpa [resW] using hr
  simp only [wordsW,List.mem_cons,List.not_mem_nil,or_false] at this
  rcases this with e | e | e | e | e | e | e | e | e | e | e<;>(rw [e] at hs;revert hs;decide)
 refine ⟨h1,h4,?_,decide_eq_false (by omega),?_⟩
 ·simp only [qbr,Bool.and_eq_false_iff,decide_eq_false_iff_not];omega
 ·rw [qj4,qsx,if_neg h2,h5,h'];rfl
theorem qg5 {w r:List UInt8} (h:varW w = true) (hr:bnd r):tokW (w ++ r) = (tokW r).map ((⟨1,0,0,w⟩:T) :: ·):=by
 obtain ⟨h1,h2,h3,h4,h5⟩:=qvc h
 rw [qh0 h1 h2 h3 h4 hr,h5]
theorem qlb {w r:List UInt8} (h:conW w = true) (hr:bnd r):tokW (w ++ r) = (tokW r).map ((⟨2,0,0,w⟩:T) :: ·):=by
 obtain ⟨h1,h2,h3,h4,h5⟩:=qtu h
 rw [qh0 h1 h2 h3 h4 hr,h5]
theorem qyv:∀ u:Nat,(digN u).all (fun c=>qbr c.toNat) = true∧digN u≠[]:=fun u=>by
 induction u using Nat.strongRecOn with
 | _ u ih =>
   by_cases h:u < 10
   ·rw [qf3 h]
    refine ⟨?_,by simp⟩
    simp only [List.all_cons,List.all_nil,Bool.and_true]
    have:(UInt8.ofNat (48 + u)).toNat = 48 + u:=by rw [UInt8.toNat_ofNat'];omega
    simp only [qbr,Bool.and_eq_true,decide_eq_true_eq];rw [this];omega
   ·rw [qid (by omega)]
    refine ⟨?_,by simp⟩
    have h8:(UInt8.ofNat (48 + u % 10)).toNat = 48 + u % 10:=by rw [UInt8.toNat_ofNat'];omega
    have h9:((UInt8.ofNat (48 + u % 10)).toNat:Int) = 48 + (u % 10:Nat):=by rw [h8];omega
    rw [List.all_append,(ih (u / 10) (by omega)).1,Bool.true_and]
    simp only [List.all_cons,List.all_nil,Bool.and_true,qbr,Bool.and_eq_true,decide_eq_true_eq]
    rw [h9];omega
theorem qno:∀ (a b:List UInt8) (k:Int),(qgu k a).2 = 0->qgu k (a ++ b) = qgu (qgu k a).1 b
 | [],b,k,_=>rfl
 | c :: r, b, k, h => by
   rw [List.cons_append]
   rw [qgu] at h ⊢
   split
   ·rename_i hc;rw [if_pos hc] at h;simp at h
   ·rename_i hc
    rw [if_neg hc] at h
    rw [qno r b _ h]
    conv=>rhs;rw [qgu,if_neg hc]
theorem qus:∀ u:Nat,u≤9223372036854775807->qgu 0 (digN u) = ((u:Int),0):=fun u=>by
 induction u using Nat.strongRecOn with
 | _ u ih =>
   intro hu
   have hdig:∀ d:Nat,d < 10->digV (UInt8.ofNat (48 + d)) = (d:Int):=fun d hd=>by
    have h8:(UInt8.ofNat (48 + d)).toNat = 48 + d:=by rw [UInt8.toNat_ofNat'];omega
    unfold digV
    rw [h8,qbgj (by omega) (by omega),qtq (by omega) (by omega)];omega
   have htop:∀ d:Nat,d < 10->topV (UInt8.ofNat (48 + d)) = (9223372036854775807 - (d:Int)) / 10:=fun d hd=>by
    unfold topV
    rw [hdig d hd]
    have e1:IntKind.i64.wrap (9223372036854775807 - (d:Int)) = 9223372036854775807 - (d:Int):=qtq (by omega) (by omega)
    rw [e1,Int.tdiv_eq_ediv_of_nonneg (by omega)];exact qtq (by omega) (by omega)
   have hnx:∀ (d:Nat) (k:Int),d < 10->0≤k->10 * k + d≤9223372036854775807->nxtV k (UInt8.ofNat (48 + d)) = 10 * k + d:=fun d k hd hk hb=>by
    unfold nxtV
    rw [hdig d hd]
    have e1:IntKind.i64.wrap (10 * k) = 10 * k:=qtq (by omega) (by omega)
    rw [e1];exact qtq (by omega) (by omega)
   by_cases h:u < 10
   ·rw [qf3 h,qgu,htop u h,if_neg (by omega),hnx u 0 h (by omega) (by omega),qgu]
    simp
   ·have h1:=ih (u / 10) (by omega) (by omega)
    rw [qid h,qno _ _ _ (by rw [h1]),h1]
    dsimp only
    rw [qgu,htop (u % 10) (by omega),if_neg (by omega),hnx (u % 10) _ (by omega) (by omega) (by omega),qgu]
    congr 1
    omega
theorem qva {m:Int} {r:List UInt8} (h0:0≤m) (h1:m≤9223372036854775807) (hr:bnd r):tokW (digI m ++ r) = (tokW r).map ((⟨3,0,m,digI m⟩:T) :: ·):=by
 obtain ⟨u,rfl⟩:∃ u:Nat,m = u:=⟨m.toNat,by omega⟩
 rw [qzo]
 obtain ⟨ha,hne⟩:=qyv u
 have hd:qbr (((digN u).getD 0 0).toNat:Int) = true:=by
  cases hx:digN u with
  | nil=>exact absurd hx hne
  | cons c w=>rw [hx] at ha;simp only [List.all_cons,Bool.and_eq_true] at ha;exact ha.1
 have hrd:qbr ((r.getD 0 0).toNat:Int) = false:=by
  unfold bnd onW at hr
  simp only [Bool.or_eq_false_iff] at hr
  exact hr.1.2
 have hw':q9 qbr (digN u ++ r) = (digN u).length:=qmk ha hrd
 refine qh5 (qm1 ?_) hne ?_ rfl
 ·rw [qdt hne];unfold onW;rw [hd];simp
 ·rw [qut (by rw [qdt hne];exact hd),hw',List.take_left,qvu hne ha,qus u (by omega)]
def mkT (w:List UInt8):T:=⟨5,0,0,w⟩
def rsT (w:List UInt8):T:=⟨4,0,0,w⟩
theorem qcr {w r:List UInt8} (hm:∀ r,qrr (w ++ r) = w.length) (hw:w≠[]) (h0:onW ((w.getD 0 0).toNat:Int) = false) (h1:qcy ((w.getD 0 0).toNat:Int) = false) (h2:∀ r,pfx [45,45] (w ++ r) = false):tokW (w ++ r) = (tokW r).map (mkT w :: ·):=by
 have hd:qbr (((w ++ r).getD 0 0).toNat:Int) = false:=by
  rw [qdt hw]
  unfold onW at h0
  simp only [Bool.or_eq_false_iff] at h0
  exact h0.1.2
 have ho:(onW (((w ++ r).getD 0 0).toNat:Int) && !decide ((((w ++ r).getD 0 0).toNat:Int) = 39)) = false:=by rw [qdt hw,h0];rfl
 have hp:=List.length_pos_iff.2 hw
 refine qh5 (qg7 (h2 r) (qlc (by rw [qdt hw];exact h1))) hw ?_ rfl
 rw [qki hd ho (by rw [hm r];omega),hm r,List.take_left];rfl
theorem qbc8 {r:List UInt8}:tokW (40 :: r) = (tokW r).map (mkT [40] :: ·):=qcr (w:=[40]) (fun r=>by cases r<;>rfl) (by decide) rfl rfl (fun r=>by cases r<;>rfl)

def Wd (s:List UInt8) (ts:List T):Prop:=∀ r,bnd r->tokW (s ++ r) = (tokW r).map (ts ++ ·)
theorem qwa (a b:List T) (o:Option (List T)):(o.map (b ++ ·)).map (a ++ ·) = o.map (a ++ b ++ ·):=by
 cases o<;>simp
theorem map_cons (t:T) (b:List T) (o:Option (List T)):(o.map (b ++ ·)).map (t :: ·) = o.map (t :: b ++ ·):=by
 cases o<;>simp
theorem map_nil (o:Option (List T)):o.map (([]:List T) ++ ·) = o:=by cases o<;>simp
theorem Wd.get {s:List UInt8} {ts:List T} (h:Wd s ts):tokW s = some ts:=by
 have:=h [] rfl
 rwa [List.append_nil,q5x,Option.map_some,List.append_nil] at this
def tkT (n:N):List T:=(tokW (ptT n)).getD []
theorem qce (r:List UInt8):bnd (32 :: r):=rfl
theorem qbcd (r:List UInt8):bnd (41 :: r):=rfl
theorem qbcc (r:List UInt8):bnd (44 :: r):=rfl
theorem qbfz (r:List UInt8):bnd (59 :: r):=rfl
theorem qbf {r:List UInt8}:tokW (32 :: r) = tokW r:=qvp rfl
theorem q9w {r:List UInt8}:tokW (41 :: r) = (tokW r).map (mkT [41] :: ·):=qcr (w:=[41]) (fun r=>by cases r<;>rfl) (by decide) rfl rfl (fun r=>by cases r<;>rfl)
theorem q34 {r:List UInt8}:tokW (123 :: r) = (tokW r).map (mkT [123] :: ·):=qcr (w:=[123]) (fun r=>by cases r<;>rfl) (by decide) rfl rfl (fun r=>by cases r<;>rfl)
theorem q5z {r:List UInt8}:tokW (125 :: r) = (tokW r).map (mkT [125] :: ·):=qcr (w:=[125]) (fun r=>by cases r<;>rfl) (by decide) rfl rfl (fun r=>by cases r<;>rfl)
theorem qbcj {r:List UInt8}:tokW (59 :: r) = (tokW r).map (mkT [59] :: ·):=qcr (w:=[59]) (fun r=>by cases r<;>rfl) (by decide) rfl rfl (fun r=>by cases r<;>rfl)
theorem qbaj {r:List UInt8}:tokW (44 :: r) = (tokW r).map (mkT [44] :: ·):=qcr (w:=[44]) (fun r=>by cases r<;>rfl) (by decide) rfl rfl (fun r=>by cases r<;>rfl)
theorem qbdk {r:List UInt8}:tokW (92 :: r) = (tokW r).map (mkT [92] :: ·):=qcr (w:=[92]) (fun r=>by cases r<;>rfl) (by decide) rfl rfl (fun r=>by cases r<;>rfl)
theorem qv7 {r:List UInt8}:tokW (45 :: 62 :: r) = (tokW r).map (mkT [45,62] :: ·):=qcr (w:=[45,62]) (fun r=>by cases r<;>rfl) (by decide) rfl rfl (fun r=>by cases r<;>rfl)
theorem qba1 {r:List UInt8}:tokW (61 :: 62 :: r) = (tokW r).map (mkT [61,62] :: ·):=qcr (w:=[61,62]) (fun r=>by cases r<;>rfl) (by decide) rfl rfl (fun r=>by cases r<;>rfl)
theorem qbbp {r:List UInt8}:tokW (58 :: 58 :: r) = (tokW r).map (mkT [58,58] :: ·):=qcr (w:=[58,58]) (fun r=>by cases r<;>rfl) (by decide) rfl rfl (fun r=>by cases r<;>rfl)
theorem qbf9 {r:List UInt8}:tokW (61 :: 32 :: r) = (tokW r).map (mkT [61] :: ·):=by
 have h:tokW ([61] ++ 32 :: r) = (tokW (32 :: r)).map (mkT [61] :: ·):=by
  refine qh5 (t:=mkT [61]) (qg7 (by cases r<;>rfl) rfl) (by decide) ?_ rfl
  rw [qki (by rfl) (by rfl) (by cases r<;>(intro h;cases h))]
  cases r<;>rfl
 rw [qbf] at h
 exact h
theorem qf4 {w r:List UInt8} (hw:w≠[]) (ho:onsW w = true) (hd:qbr (w.getD 0 0).toNat = false) (h39:decide (((w.getD 0 0).toNat:Int) = 39) = false) (hn:qj4 w = rsT w) (hr:bnd r):tokW (w ++ r) = (tokW r).map (rsT w :: ·):=by
 rw [qh0 hw ho hd h39 hr,hn]
def cloK (b:Bool) (ts:List T):List T:=if b = true then ts else mkT [40] :: (ts ++ [mkT [41]])
theorem qjf {s:List UInt8} {ts:List T} (h:Wd s ts) (b:Bool):Wd (cloW b s) (cloK b ts):=by
 intro r hr
 cases b with
 | true=>exact h r hr
 | false =>
   show tokW (40 :: (s ++ [41]) ++ r) = _
   rw [List.cons_append,qbc8,List.append_assoc,List.singleton_append,h _ (qbcd r),q9w]
   cases tokW r<;>simp [cloK]
def qex (n:N):T:=⟨if n.kind = 1 then 1 else 2,0,0,n.text⟩
def atK (n:N):List T:=cloK (qn n) (tkT n)
theorem qor {f:N->List UInt8} {g:N->List T}:∀ (l:List N),(∀ x∈l,Wd (f x) (g x))->∀ r,bnd r->bnd ((l.map fun x=>32 :: f x).flatten ++ r)∧tokW ((l.map fun x=>32 :: f x).flatten ++ r) = (tokW r).map ((l.map g).flatten ++ ·)
 | [],_,r,hr=>⟨hr,(map_nil _).symm⟩
 | x :: l, h, r, hr => by
   obtain ⟨h1,h2⟩:=qor l (fun y hy=>h y (by simp [hy])) r hr
   simp only [List.map_cons,List.flatten_cons,List.append_assoc,List.cons_append]
   refine ⟨qce _,?_⟩
   rw [qbf,h x (by simp) _ h1,h2,qwa]
   cases tokW r<;>simp
theorem qdy {n:N} (h:tyW n = true) (ha:n.kind≠1∧n.text = arW):n.kids.length = 2∧tyW (n.kids.getD 0 N0) = true∧tyW (n.kids.getD 1 N0) = true:=by
 rw [qnd,if_neg ha.1] at h
 split at h
 ·rename_i h2
  rw [if_pos (show n.text = [45,62] from ha.2),Bool.and_eq_true,decide_eq_true_eq] at h
  have hl:n.kids.length = 2:=by omega
  rw [List.all_eq_true] at h
  exact ⟨hl,h.2 _ (qe (by omega)),h.2 _ (qe (by omega))⟩
 ·cases h
theorem qf0 {n:N} (h:tyW n = true) (ha:¬ (n.kind≠1∧n.text = arW)):(n.kind = 1∧varW n.text = true∧n.kids = []∨n.kind = 2∧conW n.text = true)∧n.num = 0∧∀ x∈n.kids,tyW x = true:=by
 rw [qnd] at h
 by_cases h1:n.kind = 1
 ·rw [if_pos h1,Bool.and_eq_true,Bool.and_eq_true,decide_eq_true_eq,decide_eq_true_eq] at h
  have h0:n.kids = []:=List.length_eq_zero_iff.1 (by omega)
  exact ⟨.inl ⟨h1,h.1.2,h0⟩,h.1.1,by rw [h0];intro x hx;cases hx⟩
 ·rw [if_neg h1] at h
  split at h
  ·rename_i h2
   rw [if_neg (fun e:n.text = [45,62]=>ha ⟨h1,e⟩),Bool.and_eq_true,List.all_eq_true] at h
   exact ⟨.inr ⟨h2.1,h.1⟩,h2.2,h.2⟩
  ·cases h
theorem q5u {n:N} (h:n.kind = 1∧varW n.text = true∧n.kids = []∨n.kind = 2∧conW n.text = true):Wd n.text [qex n]:=by
 intro r hr
 rcases h with ⟨h1,h2,_⟩ | ⟨h1,h2⟩
 ·rw [qg5 h2 hr,qex,if_pos h1];cases tokW r<;>rfl
 ·rw [qlb h2 hr,qex,if_neg (by omega)];cases tokW r<;>rfl
def tkT' (n:N):List T:=if n.kind≠1∧n.text = arW then cloK (!decide ((n.kids.getD 0 N0).text = arW)) (tkT (n.kids.getD 0 N0)) ++ mkT arW :: tkT (n.kids.getD 1 N0) else qex n :: (n.kids.map atK).flatten
theorem wdT:∀ n,tyW n = true->Wd (ptT n) (tkT n)∧tkT n = tkT' n:=N.ind fun n ih ht=>by
 have hw:Wd (ptT n) (tkT' n):=by
  intro r hr
  by_cases ha:n.kind≠1∧n.text = arW
  ·obtain ⟨hl,t0,t1⟩:=qdy ht ha
   have w0:=qjf (ih _ (qe (i:=0) (by omega)) t0).1 (!decide ((n.kids.getD 0 N0).text = arW))
   have w1:=(ih _ (qe (i:=1) (by omega)) t1).1
   rw [qfs,tkT',if_pos ha,if_pos ha]
   simp only [List.append_assoc,List.cons_append,List.nil_append]
   rw [w0 _ (qce _),qbf,qv7,qbf,w1 r hr]
   cases tokW r<;>simp [arW]
  ·obtain ⟨hn,_,hk⟩:=qf0 ht ha
   rw [qfs,tkT',if_neg ha,if_neg ha,List.append_assoc]
   obtain ⟨h1,h2⟩:=qor (f:=fun x=>cloW (qn x) (ptT x)) (g:=atK) n.kids (fun x hx=>qjf (ih x hx (hk x hx)).1 _) r hr
   have e:n.kids.map atT = n.kids.map fun x=>32 :: cloW (qn x) (ptT x):=rfl
   rw [e,q5u hn _ h1]
   refine (congrArg _ h2).trans ?_
   cases tokW r<;>simp
 have he:tkT n = tkT' n:=by rw [tkT,hw.get];rfl
 exact ⟨by rw [he];exact hw,he⟩

def Ah (c:K) (ts:List T):Prop:=c.err = 0∧(remT c).map bare = ts
section
variable {c:K} {t:T} {r ts:List T}
theorem Ah.len (h:Ah c ts):rest c = ts.length:=by rw [← qzd,← h.2,List.length_map]
theorem Ah.cons (h:Ah c (t :: r)):bare (qr c) = t∧Ah (qk c) r∧(qk c).nest = c.nest:=by
 obtain ⟨h1,h2⟩:=h
 cases hr:remT c with
 | nil=>rw [hr] at h2;cases h2
 | cons u s =>
   rw [hr,List.map_cons] at h2
   obtain ⟨e1,e2⟩:=List.cons.inj h2
   obtain ⟨p1,_⟩:=qoc hr h1
   obtain ⟨n1,n2,n3⟩:=qwi hr h1
   exact ⟨by rw [p1];exact e1,⟨n2,by rw [n1];exact e2⟩,n3⟩
theorem Ah.nil (h:Ah c []):(qr c).kind = 0∧∀ x,isK c x = false:=by
 have hr:remT c = []:=List.map_eq_nil_iff.1 h.2
 have hp:=qyh hr h.1
 refine ⟨by rw [hp],fun x=>?_⟩
 unfold isK qba
 rw [hp];simp
theorem Ah.kind (h:Ah c (t :: r)):(qr c).kind = t.kind:=qjw (t:=qr c) (t':=bare (qr c)) rfl |>.trans (by rw [h.cons.1])
theorem Ah.text (h:Ah c (t :: r)):(qr c).text = t.text:=qji (t:=qr c) (t':=bare (qr c)) rfl |>.trans (by rw [h.cons.1])
theorem Ah.num (h:Ah c (t :: r)):(qr c).num = t.num:=qxo (t:=qr c) (t':=bare (qr c)) rfl |>.trans (by rw [h.cons.1])
theorem Ah.is (h:Ah c (t :: r)) (x:List UInt8):isK c x = qba t x:=by
 unfold isK qba
 rw [h.1,h.kind,h.text];simp
theorem Ah.take (h:Ah c (t :: r)) {x:List UInt8} (hx:qba t x = true):qbh c x = (qk c,true):=q2s (by rw [h.is];exact hx)
theorem Ah.leave_it (h:Ah c (t :: r)) {x:List UInt8} (hx:qba t x = false):qbh c x = (c,false):=qom (by rw [h.is];exact hx)
theorem Ah.want (h:Ah c (t :: r)) {x:List UInt8} (hx:qba t x = true):qb6 c x = (qk c,true):=if_pos (by rw [h.is];exact hx)
theorem Ah.enter (h:Ah c ts) (hn:c.nest < 200):(qi c).2 = true∧Ah (qi c).1 ts∧(qi c).1.nest = c.nest + 1:=by
 rw [qti h.1 (by omega)]
 exact ⟨rfl,h,rfl⟩
theorem Ah.leave (h:Ah c ts) {m:Nat} (hn:c.nest = m + 1):Ah (qc3 c) ts∧(qc3 c).nest = m:=by
 rw [qv3 h.1 (by omega)]
 exact ⟨h,by show c.nest - 1 = m;omega⟩
end
theorem qde {x n:N} (h1:x.kind = n.kind) (h2:x.num = n.num) (h3:x.text = n.text) (h4:x.kids.map qf = n.kids.map qf):NS x n:=by
 unfold NS
 rw [qb3,qb3,qb2,qb2,h1,h2,h3,h4]
def Got (c:K) (p:K×Option N) (n:N) (r:List T):Prop:=∃ x,p.2 = some x∧NS x n∧Ah p.1 r∧p.1.nest = c.nest
def NoA (r:List T):Prop:=∀ t s,r = t :: s->t.kind≠1∧t.kind≠2∧qba t [40] = false
def NoR (r:List T):Prop:=∀ t s,r = t :: s->qba t arW = false
theorem qm9 {w:List UInt8} {s:List T} (h:w≠[40]):NoA (mkT w :: s):=fun t s' e=>by
 obtain ⟨rfl,_⟩:=List.cons.inj e
 exact ⟨by show (5:Int)≠1;decide,by show (5:Int)≠2;decide,by simp [qba,mkT,h]⟩
theorem qj9 {w:List UInt8} {s:List T} (h:w≠arW):NoR (mkT w :: s):=fun t s' e=>by
 obtain ⟨rfl,_⟩:=List.cons.inj e
 simp [qba,mkT,h]
theorem qbc (w:List UInt8):qba (mkT w) w = true:=by simp [qba,mkT]
theorem qqh {n:N} (ht:tyW n = true) (hl:qn n = true):tkT n = [qex n]∧(n.kind = 1∨n.kind = 2)∧n.num = 0:=by
 have hk:n.kids = []:=of_decide_eq_true hl
 have ha:¬ (n.kind≠1∧n.text = arW):=fun ha=>by have:=(qdy ht ha).1;rw [hk] at this;cases this
 obtain ⟨hn,h0,_⟩:=qf0 ht ha
 refine ⟨by rw [(wdT n ht).2,tkT',if_neg ha,hk];rfl,?_,h0⟩
 rcases hn with h | h
 ·exact .inl h.1
 ·exact .inr h.1
section
variable {rec:K->K×Option N}
theorem qua {n:N} (ht:tyW n = true) {c:K} {r:List T} (h:Ah c (atK n ++ r)) (hn:qn n = false->c.nest < 200)
 (ih:qn n = false->∀ d,Ah d (tkT n ++ mkT [41] :: r)->d.nest = c.nest + 1->Got d (rec d) n (mkT [41] :: r)):Got c (qbl rec c) n r:=by
 unfold qbl
 cases hl:qn n with
 | true =>
   obtain ⟨e1,e2,e3⟩:=qqh ht hl
   have hk:n.kids = []:=of_decide_eq_true hl
   rw [atK,hl,cloK,if_pos rfl,e1,List.singleton_append] at h
   obtain ⟨_,h2,h3⟩:=h.cons
   have hki:=h.kind
   have hte:=h.text
   rcases e2 with e2 | e2
   ·rw [if_pos (by rw [hki,qex,if_pos e2])]
    exact ⟨_,rfl,qde e2.symm e3.symm hte (by rw [hk];rfl),h2,h3⟩
   ·rw [if_neg (by rw [hki,qex,if_neg (by omega)];show ¬ (2:Int) = 1;decide),if_pos (by rw [hki,qex,if_neg (by omega)])]
    exact ⟨_,rfl,qde e2.symm e3.symm hte (by rw [hk];rfl),h2,h3⟩
 | false =>
   rw [atK,hl,cloK,if_neg Bool.false_ne_true,List.cons_append,List.append_assoc,List.singleton_append] at h
   have hki:=h.kind
   rw [if_neg (by rw [hki];decide),if_neg (by rw [hki];decide),if_pos (by rw [h.is];exact qbc _)]
   obtain ⟨n1,n2,n3⟩:=h.enter (hn hl)
   rw [if_pos n1]
   obtain ⟨_,q1,q2⟩:=n2.cons
   obtain ⟨x,g1,g2,g3,g4⟩:=ih hl _ q1 (q2.trans n3)
   rw [if_pos (by rw [g1];rfl),g3.want (qbc _)]
   dsimp only
   rw [if_pos rfl]
   obtain ⟨_,q3,q4⟩:=g3.cons
   obtain ⟨l1,l2⟩:=q3.leave (m:=c.nest) (by rw [q4,g4,q2,n3])
   exact ⟨x,g1,g2,l1,l2⟩
theorem qp3 {n:N} (ht:tyW n = true):∃ t s,atK n = t :: s∧(t.kind = 1∨t.kind = 2∨qba t [40] = true):=by
 cases hl:qn n with
 | true =>
   obtain ⟨e1,e2,e3⟩:=qqh ht hl
   refine ⟨qex n,[],by rw [atK,hl,cloK,if_pos rfl,e1],?_⟩
   unfold qex
   dsimp only
   rcases e2 with e | e
   ·rw [if_pos e];exact .inl rfl
   ·rw [if_neg (by omega)];exact .inr (.inl rfl)
 | false=>exact ⟨_,_,by rw [atK,hl,cloK,if_neg Bool.false_ne_true],.inr (.inr (qbc _))⟩
theorem qqj:∀ (l:List N) (f:Nat) (c:K) (acc:List N) (r:List T),(∀ x∈l,tyW x = true)->Ah c ((l.map atK).flatten ++ r)->NoA r->l.length < f →
 (∀ x∈l,qn x = false->c.nest < 200)->(∀ x∈l,qn x = false->∀ d s,Ah d (tkT x ++ mkT [41] :: s)->rest d < rest c->d.nest = c.nest + 1->Got d (rec d) x (mkT [41] :: s)) →
 ∃ xs,(qco rec f c acc).2 = some (acc ++ xs)∧xs.map qf = l.map qf∧Ah (qco rec f c acc).1 r∧(qco rec f c acc).1.nest = c.nest
 | l,0,c,acc,r,_,_,_,hf,_,_=>by omega
 | [], f + 1, c, acc, r, _, h, hr, _, _, _ => by
   rw [qco]
   have hb:begT c = false:=by
    unfold begT
    cases r with
    | nil=>obtain ⟨e1,e2⟩:=Ah.nil h;rw [e1,e2];rfl
    | cons t s =>
      have h:Ah c (t :: s):=h
      obtain ⟨e1,e2,e3⟩:=hr t s rfl
      rw [h.kind,h.is,e3,decide_eq_false e1,decide_eq_false e2];rfl
   rw [hb,if_neg Bool.false_ne_true]
   exact ⟨[],by simp,rfl,h,rfl⟩
 | x :: l, f + 1, c, acc, r, ht, h, hr, hf, hn, ih => by
   rw [qco]
   rw [List.map_cons,List.flatten_cons,List.append_assoc] at h
   obtain ⟨t,s,e1,e2⟩:=qp3 (ht x (by simp))
   have hb:begT c = true:=by
    unfold begT
    rw [e1,List.cons_append] at h
    rw [h.kind,h.is]
    rcases e2 with e | e | e<;>simp [e]
   rw [if_pos hb]
   have hlen:=h.len
   obtain ⟨y,g1,g2,g3,g4⟩:=qua (rec:=rec) (ht x (by simp)) h (hn x (by simp)) fun hlf d hd hdn=>ih x (by simp) hlf d _ hd (by
    rw [hd.len,hlen,atK,hlf,cloK,if_neg Bool.false_ne_true]
    simp) hdn
   rw [if_pos (by rw [g1];rfl),g1]
   have hl2:rest (qbl rec c).1≤rest c:=by rw [g3.len,hlen];simp
   obtain ⟨xs,k1,k2,k3,k4⟩:=qqj l f _ (acc ++ [y]) r (fun z hz=>ht z (by simp [hz])) g3 hr (by simp at hf;omega) (fun z hz hl=>by rw [g4];exact hn z (by simp [hz]) hl) fun z hz hl d s hd hdr hdn=>ih z (by simp [hz]) hl d s hd (by omega) (by rw [hdn,g4])
   refine ⟨y :: xs,?_,?_,k3,k4.trans g4⟩
   ·dsimp only [Option.getD_some];rw [k1];simp
   ·rw [List.map_cons,List.map_cons,k2];exact congrArg (· :: _) g2
theorem qvr {n:N} (ht:tyW n = true) (ha:¬ (n.kind≠1∧n.text = arW)) {c:K} {r:List T} (h:Ah c (tkT n ++ r)) (hr:NoA r)
 (hn:∀ x∈n.kids,qn x = false->c.nest < 200) (ih:∀ x∈n.kids,qn x = false->∀ d s,Ah d (tkT x ++ mkT [41] :: s)->rest d < rest c->d.nest = c.nest + 1->Got d (rec d) x (mkT [41] :: s)):Got c (qbu rec c) n r:=by
 obtain ⟨hn',h0,hk⟩:=qf0 ht ha
 have he:=(wdT n ht).2
 rw [tkT',if_neg ha] at he
 rw [he,List.cons_append] at h
 obtain ⟨_,h2,h3⟩:=h.cons
 have hki:=h.kind
 have hte:=h.text
 have hlen:=h.len
 unfold qbu
 rcases hn' with ⟨k1,_,k3⟩ | ⟨k1,_⟩
 ·rw [if_neg (by rw [hki,qex,if_pos k1];show ¬ (1:Int) = 2;decide)]
  unfold qbl
  rw [if_pos (by rw [hki,qex,if_pos k1])]
  rw [k3] at h2
  exact ⟨_,rfl,qde k1.symm h0.symm hte (by rw [k3];rfl),h2,h3⟩
 ·rw [if_pos (by rw [hki,qex,if_neg (by omega)])]
  have hf:n.kids.length < rest c + 1:=by
   have:n.kids.length≤(n.kids.map atK).flatten.length:=by
    have hp:∀ l:List N,(∀ x∈l,tyW x = true)->l.length≤(l.map atK).flatten.length:=fun l=>by
     induction l with
     | nil=>intro _;exact Nat.le_refl _
     | cons x l ihl =>
       intro hx
       obtain ⟨t,s,e1,_⟩:=qp3 (hx x (by simp))
       have:=ihl fun y hy=>hx y (by simp [hy])
       simp only [List.map_cons,List.flatten_cons,List.length_append,List.length_cons,e1]
       omega
    exact hp _ hk
   rw [hlen];simp only [List.length_cons,List.length_append];omega
  have hlt:rest (qk c) < rest c:=by rw [h2.len,hlen];simp
  obtain ⟨xs,g1,g2,g3,g4⟩:=qqj (rec:=rec) n.kids (rest c + 1) (qk c) [] r hk h2 hr hf (fun x hx hl=>by rw [h3];exact hn x hx hl) fun x hx hl d s hd hdr hdn=>ih x hx hl d s hd (by omega) (by rw [hdn,h3])
  rw [List.nil_append] at g1
  refine ⟨qll c 2 xs,by rw [g1];rfl,qde k1.symm h0.symm hte g2,g3,g4.trans h3⟩
end
theorem qbq {n x:N} (h:x∈n.kids):dp x + 1≤dp n:=by
 rw [qj6 n]
 have:∀ l:List N,x∈l->dp x≤dps l:=fun l=>by
  induction l with
  | nil=>intro h;cases h
  | cons y l ih =>
    intro h
    rw [dps]
    rcases List.mem_cons.1 h with rfl | h
    ·omega
    ·have:=ih h;omega
 have:=this _ h
 omega
theorem qfi (n:N):1≤dp n:=by rw [qj6];omega
theorem qtk {n:N} (h:qn n = false):2≤dp n:=by
 cases hk:n.kids with
 | nil=>rw [qn,decide_eq_true hk] at h;cases h
 | cons x l=>have h1:=qbq (n:=n) (x:=x) (by rw [hk];simp);have:=qfi x;omega
theorem qbbk {s:List T}:NoA (mkT arW :: s):=qm9 (by decide)
theorem qjq:∀ (f:Nat) (n:N) (c:K) (r:List T),tyW n = true->Ah c (tkT n ++ r)->NoA r->NoR r->rest c < f->c.nest + 2 * dp n≤201->Got c (qbp f c) n r
 | 0,n,c,r,_,_,_,_,hf,_=>by omega
 | f + 1, n, c, r, ht, h, hr, hr', hf, hd => by
   have hp:=qfi n
   rw [qbp]
   obtain ⟨n1,n2,n3⟩:=h.enter (by omega)
   rw [if_pos n1]
   have hc1:rest (qi c).1 = rest c:=by rw [n2.len,h.len]
   have hih:∀ m:N,dp m + 1≤dp n->∀ x∈m.kids,qn x = false->tyW x = true->∀ d s,Ah d (tkT x ++ mkT [41] :: s)->rest d < rest (qi c).1->d.nest = (qi c).1.nest + 1->Got d (qbp f d) x (mkT [41] :: s):=fun m hm x hx hl hxt d s hd' hdr hdn =>
    qjq f x d _ hxt hd' (qm9 (by decide)) (qj9 (by decide)) (by omega) (by have:=qbq hx;omega)
   by_cases ha:n.kind≠1∧n.text = arW
   ·obtain ⟨hl,t0,t1⟩:=qdy ht ha
    have m0:=qe (l:=n.kids) (i:=0) (by omega)
    have m1:=qe (l:=n.kids) (i:=1) (by omega)
    have d0:=qbq m0
    have d1:=qbq m1
    have he:=(wdT n ht).2
    rw [tkT',if_pos ha] at he
    rw [he,List.append_assoc,List.cons_append] at n2
    have hG:Got (qi c).1 (qbu (qbp f) (qi c).1) (n.kids.getD 0 N0) (mkT arW :: (tkT (n.kids.getD 1 N0) ++ r)):=by
     by_cases hb:(n.kids.getD 0 N0).text = arW
     ·rw [decide_eq_true hb] at n2
      have hk2:(n.kids.getD 0 N0).kind≠1:=fun e=>by
       have:=t0
       rw [qnd,if_pos e,hb] at this
       simp only [Bool.and_eq_true] at this
       have:=this.1.2
       revert this;decide
      have hlf:qn (n.kids.getD 0 N0) = false:=by
       obtain ⟨q,_,_⟩:=qdy t0 ⟨hk2,hb⟩
       apply decide_eq_false
       intro e;rw [e] at q;cases q
      have hat:atK (n.kids.getD 0 N0) = cloK (!true) (tkT (n.kids.getD 0 N0)):=by rw [atK,hlf];rfl
      rw [← hat] at n2
      have hrw:qbu (qbp f) (qi c).1 = qbl (qbp f) (qi c).1:=by
       unfold qbu
       have n2':=n2
       rw [hat] at n2'
       rw [if_neg (by rw [Ah.kind (t:=mkT [40]) n2'];decide)]
      rw [hrw]
      have hlen:=n2.len
      have h2:=qtk hlf
      refine qua t0 n2 (fun _=>by omega) fun _ d hd' hdn=>qjq f _ d _ t0 hd' (qm9 (by decide)) (qj9 (by decide)) ?_ (by omega)
      have:rest d < rest (qi c).1:=by
       rw [hd'.len,hlen,hat]
       simp [cloK]
      omega
     ·rw [decide_eq_false hb] at n2
      have ha0:¬ ((n.kids.getD 0 N0).kind≠1∧(n.kids.getD 0 N0).text = arW):=fun h=>hb h.2
      obtain ⟨_,_,hkk⟩:=qf0 t0 ha0
      exact qvr t0 ha0 n2 qbbk (fun x hx hl=>by have:=qbq hx;have:=qfi x;omega) fun x hx hl d s hd' hdr hdn=>hih _ d0 x hx hl (hkk x hx) d s hd' hdr hdn
    obtain ⟨x,g1,g2,g3,g4⟩:=hG
    rw [if_pos (by rw [g1];rfl),g3.take (x:=[45,62]) (qbc _)]
    dsimp only
    rw [if_pos rfl,g1]
    obtain ⟨_,q1,q2⟩:=g3.cons
    have hlt:rest (qk (qbu (qbp f) (qi c).1).1) < rest c:=by
     rw [← hc1,q1.len,n2.len]
     simp only [List.length_append,List.length_cons];omega
    obtain ⟨y,k1,k2,k3,k4⟩:=qjq f _ _ r t1 q1 hr hr' (by omega) (by rw [q2,g4,n3];omega)
    rw [k1]
    obtain ⟨l1,l2⟩:=k3.leave (m:=c.nest) (by rw [k4,q2,g4,n3])
    refine ⟨qq1 x y,rfl,?_,l1,l2⟩
    have hk2:n.kind = 2∧n.num = 0:=by
     have:=ht
     rw [qnd,if_neg ha.1] at this
     split at this
     ·assumption
     ·cases this
    refine qde hk2.1.symm hk2.2.symm ha.2.symm ?_
    have hks:n.kids = [n.kids.getD 0 N0,n.kids.getD 1 N0]:=by
     cases hq:n.kids with
     | nil=>rw [hq] at hl;cases hl
     | cons a l => cases l with
       | nil=>rw [hq] at hl;cases hl
       | cons b l => cases l with
         | nil=>rfl
         | cons _ _=>rw [hq] at hl;simp at hl
    rw [hks]
    show [qf x,qf y] = [qf _,qf _]
    rw [show qf x = qf (n.kids.getD 0 N0) from g2,show qf y = qf (n.kids.getD 1 N0) from k2]
   ·obtain ⟨_,_,hkk⟩:=qf0 ht ha
    obtain ⟨x,g1,g2,g3,g4⟩:=qvr (rec:=qbp f) ht ha n2 hr (fun x hx hl=>by have:=qbq hx;have:=qfi x;omega) fun x hx hl d s hd' hdr hdn =>
     qjq f x d _ (hkk x hx) hd' (qm9 (by decide)) (qj9 (by decide)) (by omega) (by have:=qbq hx;omega)
    have hno:qbh (qbu (qbp f) (qi c).1).1 [45,62] = ((qbu (qbp f) (qi c).1).1,false):=by
     cases r with
     | nil=>exact qom ((Ah.nil g3).2 _)
     | cons t s=>exact Ah.leave_it g3 (hr' t s rfl)
    rw [if_pos (by rw [g1];rfl),hno]
    dsimp only
    rw [if_neg Bool.false_ne_true]
    obtain ⟨l1,l2⟩:=g3.leave (m:=c.nest) (by rw [g4,n3])
    exact ⟨x,g1,g2,l1,l2⟩
end Go.Proofs.Ytlmcofjcpadmiaa
