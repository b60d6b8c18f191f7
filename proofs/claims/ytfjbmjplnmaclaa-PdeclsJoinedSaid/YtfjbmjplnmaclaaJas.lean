/- Texts of this proof, joined. -/
import Derived.Test.YtfjbmjplnmaclaaJak
import Derived.Test.YtfjbmjplnmaclaaJam
import Derived.Test.YtfjbmjplnmaclaaJan
set_option linter.unusedVariables false
set_option linter.unusedSimpArgs false

/- trees: count, Few, Size, Depth -/
set_option maxRecDepth 4000
namespace Go.Proofs.Ytfjbmjplnmaclaa
open Go Go.RowKit Go.V

/-! count, Few -/
mutual
def cntW:N->Int->Int
 | .mk _ _ _ _ ks,k=>qbub (IntKind.i64.wrap (k - 1)) ks
def qbub:Int->List N->Int
 | a,[]=>a
 | a,x :: r=>if 0≤a then qbub (cntW x a) r else a
end
/-! the references -/
mutual
def qyy:N->Int
 | .mk _ _ _ _ ks=>qq2 1 ks
def qq2:Int->List N->Int
 | a,[]=>a
 | a,x :: r=>qq2 (IntKind.i64.wrap (a + qyy x)) r
end
theorem qbdm (n:N):qyy n = qq2 1 n.kids:=by cases n;rw [qyy];rfl
mutual
def depR:N->Int
 | .mk _ _ _ _ ks=>IntKind.i64.wrap (q3p 0 ks + 1)
def q3p:Int->List N->Int
 | a,[]=>a
 | a,x :: r=>q3p (if depR x > a then depR x else a) r
end
theorem qbjn (n:N):depR n = IntKind.i64.wrap (q3p 0 n.kids + 1):=by cases n;rw [depR];rfl
set_option maxRecDepth 4000

structure Yld (α:Type) where
 m:Nat
 hs:α->List Ent
 i:Nat
 step:α->Int->N->α×Bool
 len:∀ s,(hs s).length = m
 bd:∀ s,(hs s).all (Ent.bd m) = true
 lt:i < m
 live:α->Prop
 keep:∀ s l n,live s->(step s l n).2 = true->live (step s l n).1
 app:∀ s l n,live s->VApp Try.prog (hs s) (.opq i) [.int .i64 l,enc n] (fun H' o=>H' = hs (step s l n).1∧o = .val (.bool (step s l n).2))

theorem qbnb {α:Type} (y:Yld α) (s:α):(y.hs s).length = y.m:=y.len s
theorem qbyc {α:Type} (y:Yld α) (s:α):(y.hs s).all (Ent.bd y.m) = true:=y.bd s
theorem qbak {α:Type} (y:Yld α) (s:α) (L:List Ent):(y.hs s ++ L).take y.m = y.hs s:=by rw [← y.len s];simp
theorem qbtv {α:Type} (y:Yld α) (s:α):(y.hs s).all (Ent.bd (y.m + 1)) = true:=qbg7 (by omega) (y.bd s)
theorem qbks {α:Type} (y:Yld α):decide (y.i < y.m + 1) = true:=by have:=y.lt;simp;omega
attribute [go_sem] qbnb qbyc qbak qbtv qbks
section
variable {α:Type} (y:Yld α)
theorem qbkp {s:α} {l:Int} {n:N} {L:List Ent} {Q:List Ent->VO->Prop} (hlv:y.live s) (h:Q (y.hs (y.step s l n).1 ++ L) (.val (.bool (y.step s l n).2))):VApp Try.prog (y.hs s ++ L) (.opq y.i) [.int .i64 l,enc n] Q:=by
 refine qbbs (y.app s l n hlv) (by rw [y.len];exact y.bd s) (by rw [y.len];simpa [AV.bd] using y.lt) (by simp only [go_sem]) ?_
 rintro H1 o ⟨rfl,rfl⟩
 exact ⟨by rw [y.len,y.len],by rw [y.len];exact y.bd _,rfl,h⟩
theorem q8l {s s':α} {b:Bool} {l:Int} {n:N} {L:List Ent} {Q:List Ent->VO->Prop} (hc:VCalls Try.prog 51 (y.hs s) [enc n,.int .i64 l,.opq y.i] (fun H' o=>H' = y.hs s'∧o = .val (.bool b))) (h:Q (y.hs s' ++ L) (.val (.bool b))):VApp Try.prog (y.hs s ++ L) (.fn 51 [] []) [enc n,.int .i64 l,.opq y.i] Q:=by
 refine qb0 (first:=[]) (caps:=[]) ?_
 simp only [List.nil_append,List.append_nil]
 have:=y.lt
 refine qcy hc (by rw [y.len];exact y.bd s) (by simp only [go_sem,this]) ?_
 rintro H1 o ⟨rfl,rfl⟩
 exact ⟨by rw [y.len,y.len],by rw [y.len];exact y.bd _,rfl,h⟩
mutual
def qe2 (f:α->Int->N->α×Bool):N->Int->α->α×Bool
 | .mk k p n t ks,l,s=>if (f s l (.mk k p n t ks)).2 then qgk f (IntKind.i64.wrap (l + 1)) ks (f s l (.mk k p n t ks)).1 else ((f s l (.mk k p n t ks)).1,false)
def qgk (f:α->Int->N->α×Bool):Int->List N->α->α×Bool
 | l,[],s=>(s,true)
 | l,x :: r,s=>if (qe2 f x l s).2 then qgk f l r (qe2 f x l s).1 else ((qe2 f x l s).1,false)
end
theorem qle (f:α->Int->N->α×Bool) (n:N) (l:Int) (s:α):qe2 f n l s = if (f s l n).2 then qgk f (IntKind.i64.wrap (l + 1)) n.kids (f s l n).1 else ((f s l n).1,false):=by cases n;rw [qe2];rfl

theorem qr1 (l:Int):∀ (r:List N),(∀ x∈r,∀ l s,y.live s->(qe2 y.step x l s).2 = true->y.live (qe2 y.step x l s).1)->∀ s,y.live s->(qgk y.step l r s).2 = true->y.live (qgk y.step l r s).1
 | [],_,s,h,_=>h
 | x :: r, hx, s, h, h2 => by
   rw [qgk] at h2 ⊢
   split at h2
   ·rename_i h3
    rw [if_pos h3]
    exact qr1 l r (fun x hx'=>hx x (by simp [hx'])) _ (hx x (by simp) l s h h3) h2
   ·cases h2
theorem q93:∀ n l s,y.live s->(qe2 y.step n l s).2 = true->y.live (qe2 y.step n l s).1:=by
 refine N.ind fun n ih l s h h2=>?_
 rw [qle] at h2 ⊢
 split at h2
 ·rename_i h3
  rw [if_pos h3]
  exact qr1 y _ n.kids ih _ (y.keep s l n h h3) h2
 ·cases h2

theorem qbxm:∀ n l s,y.live s->VCalls Try.prog 51 (y.hs s) [enc n,.int .i64 l,.opq y.i] (fun H' o=>H' = y.hs (qe2 y.step n l s).1∧o = .val (.bool (qe2 y.step n l s).2)):=by
 refine N.ind fun n ih l s hlv=>?_
 have hlen:=y.len
 have hlt:=y.lt
 refine qub (by kernel_rfl) fun hw=>?_
 have hkl:n.kids.length≤maxLen:=((qbfn n).1 hw.1).1
 have hbd:∀ s,(y.hs s).all (Ent.bd (y.hs s).length) = true:=fun s=>by rw [y.len];exact y.bd s
 refine ql c0ci y.m (by rw [hlen];exact Nat.le_refl _) (by simp) ?_
 repeat' (first | refine vs_ ?_ | ((first | refine vr_ ?_ | refine qbkp y hlv ?_ | (refine cs_ ?_ ?_<;>intro hc) | refine cj_ ?_ | simp (disch:=omega) only [qk,qbb])<;>(try refine ev_ ?_)) | with_reducible exact ti_)
 ·rw [qle,if_neg (by simpa using hc)]
  exact ⟨rfl,rfl⟩
 ·refine qct (S:=Nat×α) (fun s'=>y.live s'.2∧s'.1≤n.kids.length∧qgk y.step (IntKind.i64.wrap (l + 1)) (n.kids.drop s'.1) s'.2 = qe2 y.step n l s) (fun s'=>(⟨[(1,.int .i64 l),(2,.opq y.i),(15,.sl 5 (encs n.kids)),(16,.int .i64 n.kids.length),(17,.int .i64 s'.1)],[]⟩,y.hs s'.2 ++ [.blk (enc n).cells])) (fun s=>n.kids.length - s.1) ?_ fun s' hs'=>?_
  ·refine q1l (0,(y.step s l n).1) [] ⟨y.keep s l n hlv (by simpa using hc),Nat.zero_le _,?_⟩ ?_ ?_ ?_ ?_ ?_ ?_<;>(try refine ev_ ?_)<;>(try with_reducible exact ti_)<;>(try simp (disch:=omega) only [qbb,and_true,true_and])
   rw [qle,if_pos (by simpa using hc)]
  ·obtain ⟨i,a⟩:=s'
   obtain ⟨hla,hi,ha⟩:=hs'
   dsimp only at hi ha hla
   have hstep:i < n.kids.length->qe2 y.step n l s = if (qe2 y.step (n.kids.getD i N0) (IntKind.i64.wrap (l + 1)) a).2 then qgk y.step (IntKind.i64.wrap (l + 1)) (n.kids.drop (i + 1)) (qe2 y.step (n.kids.getD i N0) (IntKind.i64.wrap (l + 1)) a).1 else ((qe2 y.step (n.kids.getD i N0) (IntKind.i64.wrap (l + 1)) a).1,false):=fun h=>by
    rw [← ha,qbj3 (l:=n.kids) (i:=i) h,qgk]
   repeat' (first | refine vs_ ?_ | ((first | refine vr_ ?_ | refine q8l y (ih _ (qto (by omega)) _ _ hla) ?_ | (refine cs_ ?_ ?_<;>intro hc) | refine cj_ ?_ | simp (disch:=omega) only [qk,qbb])<;>(try refine ev_ ?_)) | with_reducible exact ti_)
   ·rw [hstep (by omega),if_neg (by simpa using hc)]
    exact ⟨rfl,rfl⟩
   ·refine q1l (i + 1,(qe2 y.step (n.kids.getD i N0) (IntKind.i64.wrap (l + 1)) a).1) [.blk (enc (n.kids.getD i N0)).cells] ⟨⟨q93 y _ _ _ hla (by simpa using hc),by omega,?_⟩,by omega⟩ ?_ ?_ ?_ ?_ ?_ ?_<;>(try refine ev_ ?_)<;>(try with_reducible exact ti_)<;>(try simp (disch:=omega) only [qbb,and_true,true_and])
    rw [hstep (by omega),if_pos (by simpa using hc)]
   ·rw [← ha,show i = n.kids.length by omega,List.drop_length]
    exact ⟨rfl,rfl⟩

theorem qbcq {s s':α} {b:Bool} {l:Int} {n:N} {Q:List Ent->VO->Prop} (hc:VCalls Try.prog 51 (y.hs s) [enc n,.int .i64 l,.opq y.i] (fun H' o=>H' = y.hs s'∧o = .val (.bool b))) (h:Q (y.hs s') (.val (.bool b))):VApp Try.prog (y.hs s) (.fn 51 [] []) [enc n,.int .i64 l,.opq y.i] Q:=by
 have:=q8l y (L:=[]) (Q:=Q) hc (by simpa using h)
 simpa using this

theorem qb2u {n:N} {l:Int} {s:α} {p q:Nat} (hlv:y.live s) (hp:ent (y.hs s) p = .blk (nc n)) (hq:ent (y.hs s) q = .blk [.int .i64 l]):VCalls Try.prog 50 (y.hs s) [.opq y.i,.ptr p 0,.ptr q 0] (fun H' o=>H' = y.hs (qe2 y.step n l s).1∧o = .val (.tup [])):=by
 refine ql c0cj y.m (by rw [y.len];exact Nat.le_refl _) (by simp) ?_
 have ht:∀ s,(y.hs s).take y.m = y.hs s:=fun s=>by rw [← y.len s];simp
 refine q4d ?_
 simp only [go_sem,hp,hq,↓reduceIte,Nat.reduceEqDiff,Nat.reduceAdd,Nat.reduceSub,Nat.reduceMul,Nat.reduceLT,Nat.reduceLeDiff,reduceCtorEq,Int.reduceToNat]
 refine qbcq y (qbxm y _ _ _ hlv) ?_
 simp only [go_sem,ht,↓reduceIte,Nat.reduceEqDiff,Nat.reduceAdd,Nat.reduceSub,Nat.reduceMul,Nat.reduceLT,Nat.reduceLeDiff,reduceCtorEq,Int.reduceToNat]
end

theorem qb2j (n:N) (l:Int):VCalls Try.prog 32 [] [enc n,.int .i64 l] (fun H o=>H = [.blk (enc n).cells,.blk [.int .i64 l]]∧o = .val (.fn 50 [] [.ptr 0 0,.ptr 1 0])):=by
 refine ql c0ck 2 (by simp) (by simp) ?_
 repeat' (first | refine vs_ ?_ | ((first | refine vr_ ?_ | (refine cs_ ?_ ?_<;>intro hc) | refine cj_ ?_ | fail)<;>(try refine ev_ ?_)) | with_reducible exact ti_)

/-! Size -/
/-! Depth -/
def qbfu (n:N) (fn:FuncId) (asn bd:Code) (ha:qc5 Try.prog 13 asn = some q9s) (hb:qc5 Try.prog 13 bd = some q8c):Yld Int where
 m:=5
 hs:=fun k=>[.blk (nc n),.blk [.int .i64 k],.blk (nc n),.blk [.int .i64 1],.lp ⟨.ready,none,fn,[7,8].toArray,asn,bd⟩ (qkt 13 [(6,.fn 50 [] [.ptr 2 0,.ptr 3 0]),(5,enc n),(3,.ptr 1 0),(2,.int .i64 0),(1,.ptr 0 0),(0,enc n)])]
 i:=4
 step:=fun k l _=>(if l > k then l else k,true)
 len:=fun _=>rfl
 bd:=fun k=>by (refine ev_ ?_;(try with_reducible exact ti_))
 lt:=by omega
 live:=fun _=>True
 keep:=fun _ _ _ _ _=>trivial
 app:=fun k l x _=>by
  refine q3e (k:=5) rfl rfl qwb ha hb (by simp) (by simp) (by simp) fun lp=>?_
  repeat' (first | refine vs_ ?_ | ((first | refine vr_ ?_ | (refine cs_ ?_ ?_<;>intro hc) | refine cj_ ?_ | simp (disch:=omega) only [qk,qbb])<;>(try refine ev_ ?_)) | with_reducible exact ti_)

theorem q4z (n:N):qc9 Try.prog 24 [enc n] (.int .i64 (qe2 (fun (k:Int) l _=>(if l > k then l else k,true)) n 1 0).1):=by
 refine qb3 c0cl (by simp) (by simp only [go_sem]) rfl fun hw=>?_
 repeat' (first | refine vs_ ?_ | ((first | refine vr_ ?_ | (refine cs_ ?_ ?_<;>intro hc) | refine cj_ ?_ | fail)<;>(try refine ev_ ?_)) | with_reducible exact ti_)
 refine q0v (qb2j n 1) (by simp only [go_sem]) ?_
 rintro H1 o ⟨rfl,rfl⟩
 (refine ev_ ?_;(try with_reducible exact ti_))
 refine q1n (qbfo rfl (Nat.zero_le _) fun fn asn bd ha hb=>?_)
 refine VCalls.mono (qb2u (qbfu n fn asn bd ha hb) (n:=n) (l:=1) (s:=0) (p:=2) (q:=3) trivial rfl rfl) ?_
 rintro H1 o ⟨rfl,rfl⟩
 simp only [qbfu,go_sem,↓reduceIte]
 repeat' (first | refine vs_ ?_ | ((first | refine vr_ ?_ | (refine cs_ ?_ ?_<;>intro hc) | refine cj_ ?_ | fail)<;>(try refine ev_ ?_)) | with_reducible exact ti_)
set_option maxRecDepth 4000

mutual
def qit:N->N->Bool
 | .mk k _ n t ks,.mk k' _ n' t' ks'=>decide (k = k') && decide (t = t') && decide (n = n') && qet ks ks'
def qet:List N->List N->Bool
 | [],[]=>true
 | x :: r,y :: r'=>qit x y && qet r r'
 | _,_=>false
end
theorem qj0 (a b:N):qit a b = (decide (a.kind = b.kind) && decide (a.text = b.text) && decide (a.num = b.num) && qet a.kids b.kids):=by cases a;cases b;rw [qit];rfl
theorem qrn:∀ {l l':List N},l.length≠l'.length->qet l l' = false
 | [],[],h=>absurd rfl h
 | [],y :: r',_=>by rw [qet]<;>simp
 | x :: r,[],_=>by rw [qet]<;>simp
 | x :: r,y :: r',h=>by rw [qet,qrn (l:=r) (l':=r') (by simpa using h)];simp
theorem qod {l l':List N} {i:Nat} (h:i < l.length) (h':i < l'.length):qet (l.drop i) (l'.drop i) = (qit (l.getD i N0) (l'.getD i N0) && qet (l.drop (i + 1)) (l'.drop (i + 1))):=by
 rw [qbj3 h,qbj3 h',qet]
theorem q17 {l l':List N} {i:Nat} (h:l.length≤i) (h':l'.length≤i):qet (l.drop i) (l'.drop i) = true:=by
 rw [List.drop_of_length_le h,List.drop_of_length_le h',qet]

theorem qbb8 {a b:N} {i:Nat} (h1:a.kind = b.kind) (h2:a.text = b.text) (h3:a.num = b.num) (ha:qet (a.kids.drop i) (b.kids.drop i) = qet a.kids b.kids):qit a b = qet (a.kids.drop i) (b.kids.drop i):=by
 rw [ha,qj0];simp [h1,h2,h3]

theorem qrp:∀ a b,qc9 Try.prog 11 [enc a,enc b] (.bool (qit a b)):=by
 refine N.ind fun a ih b=>?_
 refine qb3 c0ch (by simp) (by simp only [go_sem]) rfl fun hw=>?_
 have hkl:a.kids.length≤maxLen:=((qbfn a).1 hw.1).1
 repeat' (first | refine vs_ ?_ | ((first | refine vr_ ?_ | (refine cs_ ?_ ?_<;>intro hc) | refine cj_ ?_ | simp (disch:=omega) only [qk,qbb])<;>(try refine ev_ ?_)) | with_reducible exact ti_)
 ·rw [qj0];simp [*]
 ·rw [qj0];simp [*]
 ·rw [qj0];simp [*]
 ·rw [qj0,qrn (by omega)];simp
 rename_i h1 h2 h3
 refine qct (S:=Nat) (fun i=>i≤a.kids.length∧qet (a.kids.drop i) (b.kids.drop i) = qet a.kids b.kids) (fun i=>(⟨[(2,.ptr 0 0),(3,.ptr 1 0),(36,.int .i64 a.kids.length),(37,.int .i64 i)],[]⟩,[.blk (nc a),.blk (nc b)])) (fun i=>a.kids.length - i) ?_ fun i hi=>?_
 ·refine qb1 0 [0,1] ⟨Nat.zero_le _,rfl⟩ rfl (by simp) ?_ ?_ ?_<;>(try refine ev_ ?_)<;>(try with_reducible exact ti_)<;>(try simp (disch:=omega) only [qbb,and_true,true_and])
 ·obtain ⟨hi,ha⟩:=hi
  have hf:=qbb8 h1 h2 h3 ha
  repeat' (first | refine vs_ ?_ | ((first | refine vr_ ?_ | refine qf (ih _ (qto (by omega)) _) fun _=>?_ | refine qbm (ih _ (qto (by omega)) _) ?_ | (refine cs_ ?_ ?_<;>intro hc) | refine cj_ ?_ | simp (disch:=omega) only [qk,qbb])<;>(try refine ev_ ?_)) | with_reducible exact ti_)
  ·rw [hf,qod (by omega) (by omega),hc];rfl
  ·refine qb1 (i + 1) [0,1] ⟨⟨by omega,?_⟩,by omega⟩ rfl (by simp) ?_ ?_ ?_<;>(try refine ev_ ?_)<;>(try with_reducible exact ti_)<;>(try simp (disch:=omega) only [qbb,and_true,true_and])
   rw [← ha,qod (l:=a.kids) (l':=b.kids) (i:=i) (by omega) (by omega),hc,Bool.true_and]
  ·rw [hf,q17 (by omega) (by omega)]

/-! Strip -/
mutual
def qj:N->N
 | .mk k _ n t ks=>.mk k 0 n t (qkq ks)
def qkq:List N->List N
 | []=>[]
 | x :: r=>qj x :: qkq r
end
theorem qqe (n:N):qj n = .mk n.kind 0 n.num n.text (qkq n.kids):=by cases n;rw [qj];rfl
theorem qgd (l:List N):qkq l = l.map qj:=by
 induction l with
 | nil=>rfl
 | cons x r ih=>rw [qkq,ih];rfl

theorem qh (l:List N) (x:N):encs l ++ [enc x] = encs (l ++ [x]):=by rw [qdw,qdw];simp

theorem q7x (l:List N) (i:Nat):(encs l).take i = encs (l.take i):=by rw [qdw,qdw,List.map_take]
theorem q9n (l:List N) (i:Nat):(encs l).drop i = encs (l.drop i):=by rw [qdw,qdw,List.map_drop]
attribute [go_sem] q7x q9n
/-! low -/

/-! patterns -/
/-! predicates, contexts, signatures -/

abbrev T3:=Bool×Bool×Bool
def d3:T3×N:=((false,false,false),N0)




mutual
def sz:N->Nat
 | .mk _ _ _ _ ks=>szs ks + 1
def szs:List N->Nat
 | []=>0
 | x :: r=>sz x + szs r
end
mutual
def dp:N->Nat
 | .mk _ _ _ _ ks=>dps ks + 1
def dps:List N->Nat
 | []=>0
 | x :: r=>max (dp x) (dps r)
end
theorem qhv (n:N):sz n = szs n.kids + 1:=by cases n;rw [sz];rfl
theorem qxi (n:N):dp n = dps n.kids + 1:=by cases n;rw [dp];rfl
theorem qx7:∀ {l:List N},(∀ x∈l,dp x≤sz x)->dps l≤szs l
 | [],_=>Nat.le_refl _
 | x :: r, h => by
   have h1:=h x (by simp)
   have h2:=qx7 (l:=r) fun y hy=>h y (by simp [hy])
   simp only [dps,szs];omega
theorem qb2n:∀ n,dp n≤sz n:=N.ind fun n ih=>by rw [qxi,qhv];have:=qx7 ih;omega

theorem qtg {z:Int} (h0:-1≤z) (h1:z≤1000000000):IntKind.i64.wrap z = z:=by
 simp [IntKind.wrap,IntKind.signed,IntKind.bits]
 omega

theorem qbd5:∀ n,sz n≤1000000->qyy n = sz n:=N.ind fun n ih h=>by
 rw [qbdm,qhv]
 rw [qhv] at h
 have key:∀ (l:List N),(∀ x∈l,sz x≤1000000->qyy x = sz x)->∀ a:Int,1≤a->a + szs l≤1000001->qq2 a l = a + szs l:=by
  intro l
  induction l with
  | nil=>intro _ a h0 h1;simp [qq2,szs]
  | cons x r ihr =>
    intro hx a h0 h1
    simp only [qq2,szs] at h1 ⊢
    rw [hx x (by simp) (by omega),qtg (by omega) (by omega),ihr (fun y hy=>hx y (by simp [hy])) _ (by omega) (by omega)]
    omega
 rw [key n.kids ih 1 (by omega) (by omega)]
 omega
def szF:Int->Int->N->Int×Bool:=fun k _ _=>(IntKind.i64.wrap (k + 1),true)
theorem qbke:∀ n l (s:Int),0≤s->s + sz n≤2000000->qe2 szF n l s = (s + sz n,true):=N.ind fun n ih l s h0 h1=>by
 rw [qle,qhv]
 rw [qhv] at h1
 simp only [szF,if_true]
 have key:∀ (r:List N),(∀ x∈r,∀ l (s:Int),0≤s->s + sz x≤2000000->qe2 szF x l s = (s + sz x,true))->∀ l (s:Int),0≤s->s + szs r≤2000000->qgk szF l r s = (s + szs r,true):=by
  intro r
  induction r with
  | nil=>intro _ l s _ _;simp [qgk,szs]
  | cons x r ihr =>
    intro hx l s h0 h1
    simp only [qgk,szs] at h1 ⊢
    rw [hx x (by simp) _ _ h0 (by omega),if_pos rfl,ihr (fun y hy=>hx y (by simp [hy])) _ _ (by omega) (by omega)]
    simp only [Prod.mk.injEq,and_true];omega
 have:=key n.kids ih (IntKind.i64.wrap (l + 1)) (IntKind.i64.wrap (s + 1)) (by rw [qtg (by omega) (by omega)];omega) (by rw [qtg (by omega) (by omega)];omega)
 rw [this,qtg (by omega) (by omega)]
 simp only [Prod.mk.injEq,and_true];omega
theorem qb2e {n:N} (h:sz n≤3000):(qe2 (fun (k:Int) _ _=>(IntKind.i64.wrap (k + 1),true)) n 1 0).1 = qyy n:=by
 show (qe2 szF n 1 0).1 = qyy n
 rw [qbke n 1 0 (by omega) (by omega),qbd5 n (by omega)];simp

theorem qsm:∀ n,sz n≤1000000->depR n = dp n:=N.ind fun n ih h=>by
 rw [qbjn,qxi]
 rw [qhv] at h
 have key:∀ (l:List N),(∀ x∈l,sz x≤1000000->depR x = dp x)->szs l≤1000000->∀ a:Int,0≤a->q3p a l = max a (dps l):=by
  intro l
  induction l with
  | nil=>intro _ _ a h0;simp [q3p,dps];omega
  | cons x r ihr =>
    intro hx hs a h0
    simp only [szs] at hs
    simp only [q3p,dps]
    rw [hx x (by simp) (by omega)]
    have:=ihr (fun y hy=>hx y (by simp [hy])) (by omega)
    split
    ·rw [this _ (by omega)];omega
    ·rw [this _ (by omega)];omega
 have hd:=qx7 (l:=n.kids) fun x _=>qb2n x
 rw [key n.kids ih (by omega) 0 (by omega),qtg (by omega) (by omega)]
 omega
def dpF:Int->Int->N->Int×Bool:=fun k l _=>(if l > k then l else k,true)
theorem qbob:∀ n (l s:Int),0≤l->l + sz n≤2000000->qe2 dpF n l s = (max s (l + dp n - 1),true):=N.ind fun n ih l s h0 h1=>by
 rw [qle,qxi]
 rw [qhv] at h1
 simp only [dpF,if_true]
 have key:∀ (r:List N),(∀ x∈r,∀ (l s:Int),0≤l->l + sz x≤2000000->qe2 dpF x l s = (max s (l + dp x - 1),true))->∀ (l s:Int),0≤l->l + szs r≤2000000->l - 1≤s->qgk dpF l r s = (max s (l + dps r - 1),true):=by
  intro r
  induction r with
  | nil=>intro _ l s _ _ h;simp only [qgk,dps,Prod.mk.injEq,and_true];omega
  | cons x r ihr =>
    intro hx l s h0 h1 h2
    simp only [szs] at h1
    simp only [qgk,dps]
    rw [hx x (by simp) _ _ h0 (by omega),if_pos rfl,ihr (fun y hy=>hx y (by simp [hy])) _ _ (by omega) (by omega) (by omega)]
    simp only [Prod.mk.injEq,and_true];omega
 have:=key n.kids ih (IntKind.i64.wrap (l + 1)) (if l > s then l else s) (by rw [qtg (by omega) (by omega)];omega) (by rw [qtg (by omega) (by omega)];omega) (by rw [qtg (by omega) (by omega)];split<;>omega)
 rw [this,qtg (by omega) (by omega)]
 simp only [Prod.mk.injEq,and_true]
 split<;>omega
end Go.Proofs.Ytfjbmjplnmaclaa
