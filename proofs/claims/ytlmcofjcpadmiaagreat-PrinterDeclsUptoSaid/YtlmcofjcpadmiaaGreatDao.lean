/- Texts of this proof, joined. -/
import Derived.Test.YtlmcofjcpadmiaaGreatDak
import Derived.Test.YtlmcofjcpadmiaaGreatDan
import Derived.Test.YtlmcofjcpadmiaaGreatDaj
set_option linter.unusedVariables false
set_option linter.unusedSimpArgs false

/- trees: count, Few, Size, Depth -/
set_option maxRecDepth 4000
namespace Go.Proofs.YtlmcofjcpadmiaaGreat
open Go Go.RowKit Go.V

/-! count, Few -/
mutual
def cntW:N->Int->Int
 | .mk _ _ _ _ ks,k=>qlu (IntKind.i64.wrap (k - 1)) ks
def qlu:Int->List N->Int
 | a,[]=>a
 | a,x :: r=>if 0≤a then qlu (cntW x a) r else a
end
theorem q70 (n:N) (k:Int):cntW n k = qlu (IntKind.i64.wrap (k - 1)) n.kids:=by cases n;rw [cntW];rfl
theorem q46 {a:Int} (h:a < 0) (l:List N):qlu a l = a:=by
 cases l with
 | nil=>rfl
 | cons x r=>rw [qlu,if_neg (by omega)]
theorem qbop:∀ n k,qq Tryz.prog 32 [enc n,.int .i64 k] (.int .i64 (cntW n k)):=by
 refine N.ind fun n ih k=>?_
 refine qg c0ce (by simp) (by simp only [go_sem]) rfl fun hw=>?_
 have hkl:n.kids.length≤maxLen:=((qjv n).1 hw.1).1
 repeat' (first | refine vs_ ?_ | ((first | refine vr_ ?_ | (refine cs_ ?_ ?_<;>intro hc) | refine cj_ ?_ | simp (disch:=omega) only [qb,qm])<;>(try refine ev_ ?_)) | with_reducible exact ti_)
 refine qcc (S:=Nat×Int) (fun s=>s.1≤n.kids.length∧qlu s.2 (n.kids.drop s.1) = cntW n k) (fun s=>(⟨[(1,.int .i64 s.2),(2,.ptr 0 0),(5,.int .i64 s.1)],[]⟩,[.blk (enc n).cells])) (fun s=>n.kids.length - s.1) ?_ fun s hs=>?_
 ·refine qbl (0,IntKind.i64.wrap (k - 1)) [0] ⟨Nat.zero_le _,(q70 n k).symm⟩ rfl (by simp) ?_ ?_ ?_<;>(refine ev_ ?_;(try with_reducible exact ti_))
 ·obtain ⟨i,a⟩:=s
  obtain ⟨hi,ha⟩:=hs
  dsimp only at hi ha
  repeat' (first | refine vs_ ?_ | ((first | refine vr_ ?_ | refine qa (ih _ (qf (by omega)) _) fun _=>?_ | (refine cs_ ?_ ?_<;>intro hc) | refine cj_ ?_ | simp (disch:=omega) only [qb,qm])<;>(try refine ev_ ?_)) | with_reducible exact ti_)
  ·refine qbl (i + 1,cntW (n.kids.getD i N0) a) [0] ⟨⟨by omega,?_⟩,by omega⟩ rfl (by simp) ?_ ?_ ?_<;>(try refine ev_ ?_)<;>(try with_reducible exact ti_)<;>(try simp (disch:=omega) only [qm,and_true,true_and])
   rw [← ha,qyd (l:=n.kids) (i:=i) (by omega),qlu,if_pos (by assumption)]
  ·rw [← ha,q46 (by omega)]
  ·rw [← ha,show i = n.kids.length by omega,List.drop_length];rfl

def fewW (n:N):Bool:=decide (0≤cntW n 3000)
theorem few7 (n:N):qq Tryz.prog 7 [enc n] (.int .i64 (if fewW n then 1 else 0)):=by
 refine qg c0cf (by simp) (by simp only [go_sem]) rfl fun hw=>?_
 repeat' (first | refine vs_ ?_ | ((first | refine vr_ ?_ | refine qa (qbop _ _) fun _=>?_ | (refine cs_ ?_ ?_<;>intro hc) | refine cj_ ?_ | fail)<;>(try refine ev_ ?_)) | with_reducible exact ti_)
 ·rw [if_neg (by simp [fewW];omega)]
 ·rw [if_pos (by simp [fewW];omega)]

/-! the references -/
mutual
def qwu:N->Int
 | .mk _ _ _ _ ks=>qqx 1 ks
def qqx:Int->List N->Int
 | a,[]=>a
 | a,x :: r=>qqx (IntKind.i64.wrap (a + qwu x)) r
end
theorem qba9 (n:N):qwu n = qqx 1 n.kids:=by cases n;rw [qwu];rfl
mutual
def depR:N->Int
 | .mk _ _ _ _ ks=>IntKind.i64.wrap (qts 0 ks + 1)
def qts:Int->List N->Int
 | a,[]=>a
 | a,x :: r=>qts (if depR x > a then depR x else a) r
end
theorem q5s (n:N):depR n = IntKind.i64.wrap (qts 0 n.kids + 1):=by cases n;rw [depR];rfl
set_option maxRecDepth 4000

structure Yld (α:Type) where
 m:Nat
 hs:α->List Ent
 i:Nat
 step:α->Int->N->α×Bool
 len:∀ s,(hs s).length = m
 bd:∀ s,(hs s).all (Ent.bd m) = true
 lt:i < m
 live:α->Prop
 keep:∀ s l n,live s->(step s l n).2 = true->live (step s l n).1
 app:∀ s l n,live s->VApp Tryz.prog (hs s) (.opq i) [.int .i64 l,enc n] (fun H' o=>H' = hs (step s l n).1∧o = .val (.bool (step s l n).2))

theorem qb1j {α:Type} (y:Yld α) (s:α):(y.hs s).length = y.m:=y.len s
theorem qb89 {α:Type} (y:Yld α) (s:α):(y.hs s).all (Ent.bd y.m) = true:=y.bd s
theorem qbam {α:Type} (y:Yld α) (s:α) (L:List Ent):(y.hs s ++ L).take y.m = y.hs s:=by rw [← y.len s];simp
theorem qbt8 {α:Type} (y:Yld α) (s:α):(y.hs s).all (Ent.bd (y.m + 1)) = true:=qbsi (by omega) (y.bd s)
theorem qbtl {α:Type} (y:Yld α):decide (y.i < y.m + 1) = true:=by have:=y.lt;simp;omega
attribute [go_sem] qb1j qb89 qbam qbt8 qbtl
section
variable {α:Type} (y:Yld α)
theorem qbxa {s:α} {l:Int} {n:N} {L:List Ent} {Q:List Ent->VO->Prop} (hlv:y.live s) (h:Q (y.hs (y.step s l n).1 ++ L) (.val (.bool (y.step s l n).2))):VApp Tryz.prog (y.hs s ++ L) (.opq y.i) [.int .i64 l,enc n] Q:=by
 refine qbf5 (y.app s l n hlv) (by rw [y.len];exact y.bd s) (by rw [y.len];simpa [AV.bd] using y.lt) (by simp only [go_sem]) ?_
 rintro H1 o ⟨rfl,rfl⟩
 exact ⟨by rw [y.len,y.len],by rw [y.len];exact y.bd _,rfl,h⟩
theorem q3h {s s':α} {b:Bool} {l:Int} {n:N} {L:List Ent} {Q:List Ent->VO->Prop} (hc:VCalls Tryz.prog 141 (y.hs s) [enc n,.int .i64 l,.opq y.i] (fun H' o=>H' = y.hs s'∧o = .val (.bool b))) (h:Q (y.hs s' ++ L) (.val (.bool b))):VApp Tryz.prog (y.hs s ++ L) (.fn 141 [] []) [enc n,.int .i64 l,.opq y.i] Q:=by
 refine qbr (first:=[]) (caps:=[]) ?_
 simp only [List.nil_append,List.append_nil]
 have:=y.lt
 refine qc1 hc (by rw [y.len];exact y.bd s) (by simp only [go_sem,this]) ?_
 rintro H1 o ⟨rfl,rfl⟩
 exact ⟨by rw [y.len,y.len],by rw [y.len];exact y.bd _,rfl,h⟩
mutual
def qc7 (f:α->Int->N->α×Bool):N->Int->α->α×Bool
 | .mk k p n t ks,l,s=>if (f s l (.mk k p n t ks)).2 then qdr f (IntKind.i64.wrap (l + 1)) ks (f s l (.mk k p n t ks)).1 else ((f s l (.mk k p n t ks)).1,false)
def qdr (f:α->Int->N->α×Bool):Int->List N->α->α×Bool
 | l,[],s=>(s,true)
 | l,x :: r,s=>if (qc7 f x l s).2 then qdr f l r (qc7 f x l s).1 else ((qc7 f x l s).1,false)
end
theorem qgw (f:α->Int->N->α×Bool) (n:N) (l:Int) (s:α):qc7 f n l s = if (f s l n).2 then qdr f (IntKind.i64.wrap (l + 1)) n.kids (f s l n).1 else ((f s l n).1,false):=by cases n;rw [qc7];rfl

theorem qqy (l:Int):∀ (r:List N),(∀ x∈r,∀ l s,y.live s->(qc7 y.step x l s).2 = true->y.live (qc7 y.step x l s).1)->∀ s,y.live s->(qdr y.step l r s).2 = true->y.live (qdr y.step l r s).1
 | [],_,s,h,_=>h
 | x :: r, hx, s, h, h2 => by
   rw [qdr] at h2 ⊢
   split at h2
   ·rename_i h3
    rw [if_pos h3]
    exact qqy l r (fun x hx'=>hx x (by simp [hx'])) _ (hx x (by simp) l s h h3) h2
   ·cases h2
theorem q82:∀ n l s,y.live s->(qc7 y.step n l s).2 = true->y.live (qc7 y.step n l s).1:=by
 refine N.ind fun n ih l s h h2=>?_
 rw [qgw] at h2 ⊢
 split at h2
 ·rename_i h3
  rw [if_pos h3]
  exact qqy y _ n.kids ih _ (y.keep s l n h h3) h2
 ·cases h2

theorem qcav:∀ n l s,y.live s->VCalls Tryz.prog 141 (y.hs s) [enc n,.int .i64 l,.opq y.i] (fun H' o=>H' = y.hs (qc7 y.step n l s).1∧o = .val (.bool (qc7 y.step n l s).2)):=by
 refine N.ind fun n ih l s hlv=>?_
 have hlen:=y.len
 have hlt:=y.lt
 refine qwt (by kernel_rfl) fun hw=>?_
 have hkl:n.kids.length≤maxLen:=((qjv n).1 hw.1).1
 have hbd:∀ s,(y.hs s).all (Ent.bd (y.hs s).length) = true:=fun s=>by rw [y.len];exact y.bd s
 refine qj c0ca y.m (by rw [hlen];exact Nat.le_refl _) (by simp) ?_
 repeat' (first | refine vs_ ?_ | ((first | refine vr_ ?_ | refine qbxa y hlv ?_ | (refine cs_ ?_ ?_<;>intro hc) | refine cj_ ?_ | simp (disch:=omega) only [qb,qm])<;>(try refine ev_ ?_)) | with_reducible exact ti_)
 ·rw [qgw,if_neg (by simpa using hc)]
  exact ⟨rfl,rfl⟩
 ·refine qcc (S:=Nat×α) (fun s'=>y.live s'.2∧s'.1≤n.kids.length∧qdr y.step (IntKind.i64.wrap (l + 1)) (n.kids.drop s'.1) s'.2 = qc7 y.step n l s) (fun s'=>(⟨[(1,.int .i64 l),(2,.opq y.i),(15,.sl 5 (encs n.kids)),(16,.int .i64 n.kids.length),(17,.int .i64 s'.1)],[]⟩,y.hs s'.2 ++ [.blk (enc n).cells])) (fun s=>n.kids.length - s.1) ?_ fun s' hs'=>?_
  ·refine qyt (0,(y.step s l n).1) [] ⟨y.keep s l n hlv (by simpa using hc),Nat.zero_le _,?_⟩ ?_ ?_ ?_ ?_ ?_ ?_<;>(try refine ev_ ?_)<;>(try with_reducible exact ti_)<;>(try simp (disch:=omega) only [qm,and_true,true_and])
   rw [qgw,if_pos (by simpa using hc)]
  ·obtain ⟨i,a⟩:=s'
   obtain ⟨hla,hi,ha⟩:=hs'
   dsimp only at hi ha hla
   have hstep:i < n.kids.length->qc7 y.step n l s = if (qc7 y.step (n.kids.getD i N0) (IntKind.i64.wrap (l + 1)) a).2 then qdr y.step (IntKind.i64.wrap (l + 1)) (n.kids.drop (i + 1)) (qc7 y.step (n.kids.getD i N0) (IntKind.i64.wrap (l + 1)) a).1 else ((qc7 y.step (n.kids.getD i N0) (IntKind.i64.wrap (l + 1)) a).1,false):=fun h=>by
    rw [← ha,qyd (l:=n.kids) (i:=i) h,qdr]
   repeat' (first | refine vs_ ?_ | ((first | refine vr_ ?_ | refine q3h y (ih _ (qf (by omega)) _ _ hla) ?_ | (refine cs_ ?_ ?_<;>intro hc) | refine cj_ ?_ | simp (disch:=omega) only [qb,qm])<;>(try refine ev_ ?_)) | with_reducible exact ti_)
   ·rw [hstep (by omega),if_neg (by simpa using hc)]
    exact ⟨rfl,rfl⟩
   ·refine qyt (i + 1,(qc7 y.step (n.kids.getD i N0) (IntKind.i64.wrap (l + 1)) a).1) [.blk (enc (n.kids.getD i N0)).cells] ⟨⟨q82 y _ _ _ hla (by simpa using hc),by omega,?_⟩,by omega⟩ ?_ ?_ ?_ ?_ ?_ ?_<;>(try refine ev_ ?_)<;>(try with_reducible exact ti_)<;>(try simp (disch:=omega) only [qm,and_true,true_and])
    rw [hstep (by omega),if_pos (by simpa using hc)]
   ·rw [← ha,show i = n.kids.length by omega,List.drop_length]
    exact ⟨rfl,rfl⟩

theorem qbg5 {s s':α} {b:Bool} {l:Int} {n:N} {Q:List Ent->VO->Prop} (hc:VCalls Tryz.prog 141 (y.hs s) [enc n,.int .i64 l,.opq y.i] (fun H' o=>H' = y.hs s'∧o = .val (.bool b))) (h:Q (y.hs s') (.val (.bool b))):VApp Tryz.prog (y.hs s) (.fn 141 [] []) [enc n,.int .i64 l,.opq y.i] Q:=by
 have:=q3h y (L:=[]) (Q:=Q) hc (by simpa using h)
 simpa using this

theorem qcbe {n:N} {l:Int} {s:α} {p q:Nat} (hlv:y.live s) (hp:ent (y.hs s) p = .blk (nc n)) (hq:ent (y.hs s) q = .blk [.int .i64 l]):VCalls Tryz.prog 140 (y.hs s) [.opq y.i,.ptr p 0,.ptr q 0] (fun H' o=>H' = y.hs (qc7 y.step n l s).1∧o = .val (.tup [])):=by
 refine qj c0cb y.m (by rw [y.len];exact Nat.le_refl _) (by simp) ?_
 have ht:∀ s,(y.hs s).take y.m = y.hs s:=fun s=>by rw [← y.len s];simp
 refine qr1 ?_
 simp only [go_sem,hp,hq,↓reduceIte,Nat.reduceEqDiff,Nat.reduceAdd,Nat.reduceSub,Nat.reduceMul,Nat.reduceLT,Nat.reduceLeDiff,reduceCtorEq,Int.reduceToNat]
 refine qbg5 y (qcav y _ _ _ hlv) ?_
 simp only [go_sem,ht,↓reduceIte,Nat.reduceEqDiff,Nat.reduceAdd,Nat.reduceSub,Nat.reduceMul,Nat.reduceLT,Nat.reduceLeDiff,reduceCtorEq,Int.reduceToNat]
end

theorem qb70 (n:N) (l:Int):VCalls Tryz.prog 88 [] [enc n,.int .i64 l] (fun H o=>H = [.blk (enc n).cells,.blk [.int .i64 l]]∧o = .val (.fn 140 [] [.ptr 0 0,.ptr 1 0])):=by
 refine qj c0cc 2 (by simp) (by simp) ?_
 repeat' (first | refine vs_ ?_ | ((first | refine vr_ ?_ | (refine cs_ ?_ ?_<;>intro hc) | refine cj_ ?_ | fail)<;>(try refine ev_ ?_)) | with_reducible exact ti_)

/-! Size -/
/-! Depth -/
def qbh4 (n:N) (fn:FuncId) (asn bd:Code) (ha:qc0 Tryz.prog 13 asn = some q8v) (hb:qc0 Tryz.prog 13 bd = some q5q):Yld Int where
 m:=5
 hs:=fun k=>[.blk (nc n),.blk [.int .i64 k],.blk (nc n),.blk [.int .i64 1],.lp ⟨.ready,none,fn,[7,8].toArray,asn,bd⟩ (qjq 13 [(6,.fn 140 [] [.ptr 2 0,.ptr 3 0]),(5,enc n),(3,.ptr 1 0),(2,.int .i64 0),(1,.ptr 0 0),(0,enc n)])]
 i:=4
 step:=fun k l _=>(if l > k then l else k,true)
 len:=fun _=>rfl
 bd:=fun k=>by (refine ev_ ?_;(try with_reducible exact ti_))
 lt:=by omega
 live:=fun _=>True
 keep:=fun _ _ _ _ _=>trivial
 app:=fun k l x _=>by
  refine qrk (k:=5) rfl rfl qoh ha hb (by simp) (by simp) (by simp) fun lp=>?_
  repeat' (first | refine vs_ ?_ | ((first | refine vr_ ?_ | (refine cs_ ?_ ?_<;>intro hc) | refine cj_ ?_ | simp (disch:=omega) only [qb,qm])<;>(try refine ev_ ?_)) | with_reducible exact ti_)

theorem qi0 (n:N):qq Tryz.prog 56 [enc n] (.int .i64 (qc7 (fun (k:Int) l _=>(if l > k then l else k,true)) n 1 0).1):=by
 refine qg c0cd (by simp) (by simp only [go_sem]) rfl fun hw=>?_
 repeat' (first | refine vs_ ?_ | ((first | refine vr_ ?_ | (refine cs_ ?_ ?_<;>intro hc) | refine cj_ ?_ | fail)<;>(try refine ev_ ?_)) | with_reducible exact ti_)
 refine qty (qb70 n 1) (by simp only [go_sem]) ?_
 rintro H1 o ⟨rfl,rfl⟩
 (refine ev_ ?_;(try with_reducible exact ti_))
 refine qtw (q5d rfl (Nat.zero_le _) fun fn asn bd ha hb=>?_)
 refine VCalls.mono (qcbe (qbh4 n fn asn bd ha hb) (n:=n) (l:=1) (s:=0) (p:=2) (q:=3) trivial rfl rfl) ?_
 rintro H1 o ⟨rfl,rfl⟩
 simp only [qbh4,go_sem,↓reduceIte]
 repeat' (first | refine vs_ ?_ | ((first | refine vr_ ?_ | (refine cs_ ?_ ?_<;>intro hc) | refine cj_ ?_ | fail)<;>(try refine ev_ ?_)) | with_reducible exact ti_)
set_option maxRecDepth 4000

mutual
def qmy:N->N->Bool
 | .mk k _ n t ks,.mk k' _ n' t' ks'=>decide (k = k') && decide (t = t') && decide (n = n') && qem ks ks'
def qem:List N->List N->Bool
 | [],[]=>true
 | x :: r,y :: r'=>qmy x y && qem r r'
 | _,_=>false
end
theorem qjn (a b:N):qmy a b = (decide (a.kind = b.kind) && decide (a.text = b.text) && decide (a.num = b.num) && qem a.kids b.kids):=by cases a;cases b;rw [qmy];rfl
theorem qr0:∀ {l l':List N},l.length≠l'.length->qem l l' = false
 | [],[],h=>absurd rfl h
 | [],y :: r',_=>by rw [qem]<;>simp
 | x :: r,[],_=>by rw [qem]<;>simp
 | x :: r,y :: r',h=>by rw [qem,qr0 (l:=r) (l':=r') (by simpa using h)];simp
theorem qqf {l l':List N} {i:Nat} (h:i < l.length) (h':i < l'.length):qem (l.drop i) (l'.drop i) = (qmy (l.getD i N0) (l'.getD i N0) && qem (l.drop (i + 1)) (l'.drop (i + 1))):=by
 rw [qyd h,qyd h',qem]
theorem q2i {l l':List N} {i:Nat} (h:l.length≤i) (h':l'.length≤i):qem (l.drop i) (l'.drop i) = true:=by
 rw [List.drop_of_length_le h,List.drop_of_length_le h',qem]

theorem qbbd {a b:N} {i:Nat} (h1:a.kind = b.kind) (h2:a.text = b.text) (h3:a.num = b.num) (ha:qem (a.kids.drop i) (b.kids.drop i) = qem a.kids b.kids):qmy a b = qem (a.kids.drop i) (b.kids.drop i):=by
 rw [ha,qjn];simp [h1,h2,h3]

theorem qg4:∀ a b,qq Tryz.prog 23 [enc a,enc b] (.bool (qmy a b)):=by
 refine N.ind fun a ih b=>?_
 refine qg c0bz (by simp) (by simp only [go_sem]) rfl fun hw=>?_
 have hkl:a.kids.length≤maxLen:=((qjv a).1 hw.1).1
 repeat' (first | refine vs_ ?_ | ((first | refine vr_ ?_ | (refine cs_ ?_ ?_<;>intro hc) | refine cj_ ?_ | simp (disch:=omega) only [qb,qm])<;>(try refine ev_ ?_)) | with_reducible exact ti_)
 ·rw [qjn];simp [*]
 ·rw [qjn];simp [*]
 ·rw [qjn];simp [*]
 ·rw [qjn,qr0 (by omega)];simp
 rename_i h1 h2 h3
 refine qcc (S:=Nat) (fun i=>i≤a.kids.length∧qem (a.kids.drop i) (b.kids.drop i) = qem a.kids b.kids) (fun i=>(⟨[(2,.ptr 0 0),(3,.ptr 1 0),(36,.int .i64 a.kids.length),(37,.int .i64 i)],[]⟩,[.blk (nc a),.blk (nc b)])) (fun i=>a.kids.length - i) ?_ fun i hi=>?_
 ·refine qbl 0 [0,1] ⟨Nat.zero_le _,rfl⟩ rfl (by simp) ?_ ?_ ?_<;>(try refine ev_ ?_)<;>(try with_reducible exact ti_)<;>(try simp (disch:=omega) only [qm,and_true,true_and])
 ·obtain ⟨hi,ha⟩:=hi
  have hf:=qbbd h1 h2 h3 ha
  repeat' (first | refine vs_ ?_ | ((first | refine vr_ ?_ | refine qa (ih _ (qf (by omega)) _) fun _=>?_ | refine qe (ih _ (qf (by omega)) _) ?_ | (refine cs_ ?_ ?_<;>intro hc) | refine cj_ ?_ | simp (disch:=omega) only [qb,qm])<;>(try refine ev_ ?_)) | with_reducible exact ti_)
  ·rw [hf,qqf (by omega) (by omega),hc];rfl
  ·refine qbl (i + 1) [0,1] ⟨⟨by omega,?_⟩,by omega⟩ rfl (by simp) ?_ ?_ ?_<;>(try refine ev_ ?_)<;>(try with_reducible exact ti_)<;>(try simp (disch:=omega) only [qm,and_true,true_and])
   rw [← ha,qqf (l:=a.kids) (l':=b.kids) (i:=i) (by omega) (by omega),hc,Bool.true_and]
  ·rw [hf,q2i (by omega) (by omega)]

/-! Strip -/
mutual
def qo:N->N
 | .mk k _ n t ks=>.mk k 0 n t (qkj ks)
def qkj:List N->List N
 | []=>[]
 | x :: r=>qo x :: qkj r
end
theorem qgh (n:N):qo n = .mk n.kind 0 n.num n.text (qkj n.kids):=by cases n;rw [qo];rfl
theorem qgg (l:List N):qkj l = l.map qo:=by
 induction l with
 | nil=>rfl
 | cons x r ih=>rw [qkj,ih];rfl

theorem qbtw {l:List N} {i:Nat} (h:i < l.length):l.take (i + 1) = l.take i ++ [l.getD i N0]:=by
 rw [List.take_add_one,List.getD_eq_getElem?_getD,List.getElem?_eq_getElem h];rfl
theorem qh (l:List N) (x:N):encs l ++ [enc x] = encs (l ++ [x]):=by rw [qd6,qd6];simp
set_option maxRecDepth 4000

def qq6 (c:Int):Bool:=decide (97≤c) && decide (c≤122) || decide (c = 95)
def qpd (c:Int):Bool:=decide (65≤c) && decide (c≤90)
def qci (c:Int):Bool:=decide (48≤c) && decide (c≤57)

theorem qos (c:Int):qq Tryz.prog 142 [.int .u8 c] (.bool (qq6 c)):=by
 refine qg c0cg (by simp) (by simp only [go_sem]) rfl fun hw=>?_
 repeat' (first | refine vs_ ?_ | ((first | refine vr_ ?_ | (refine cs_ ?_ ?_<;>intro hc) | refine cj_ ?_ | fail)<;>(try refine ev_ ?_)) | with_reducible exact ti_)
 all_goals simp [qq6, *]
theorem qpu (c:Int):qq Tryz.prog 145 [.int .u8 c] (.bool (qpd c)):=by
 refine qg c0ch (by simp) (by simp only [go_sem]) rfl fun hw=>?_
 repeat' (first | refine vs_ ?_ | ((first | refine vr_ ?_ | (refine cs_ ?_ ?_<;>intro hc) | refine cj_ ?_ | fail)<;>(try refine ev_ ?_)) | with_reducible exact ti_)
 all_goals simp [qpd, *]
def onW (c:Int):Bool:=qq6 c || qpd c || qci c || decide (c = 39)
def onsW (l:List UInt8):Bool:=l.all fun c=>onW c.toNat
theorem qk8 {l:List UInt8} {i:Nat} (h:i < l.length):l.drop i = l.getD i 0 :: l.drop (i + 1):=by
 rw [List.drop_eq_getElem_cons h,List.getD_eq_getElem?_getD,List.getElem?_eq_getElem h];rfl
theorem qpv {l:List UInt8} {i:Nat} (h:i < l.length):onsW (l.drop i) = (onW (l.getD i 0).toNat && onsW (l.drop (i + 1))):=by
 rw [qk8 h];rfl
theorem qrc (l:List UInt8):qq Tryz.prog 143 [.str l] (.bool (onsW l)):=by
 refine qg c0ci (by simp) (by simp only [go_sem]) rfl fun hw=>?_
 have hl:l.length≤maxLen:=hw.1
 repeat' (first | refine vs_ ?_ | ((first | refine vr_ ?_ | (refine cs_ ?_ ?_<;>intro hc) | refine cj_ ?_ | simp (disch:=omega) only [qb,qm])<;>(try refine ev_ ?_)) | with_reducible exact ti_)
 refine qcc (S:=Nat) (fun i=>i≤l.length∧onsW (l.drop i) = onsW l) (fun i=>(⟨[(0,.str l),(6,.int .i64 l.length),(7,.int .i64 i)],[]⟩,[])) (fun i=>l.length - i) ?_ fun i hi=>?_
 ·refine qbl 0 [] ⟨Nat.zero_le _,rfl⟩ rfl (by simp) ?_ ?_ ?_<;>(try refine ev_ ?_)<;>(try with_reducible exact ti_)<;>(try simp (disch:=omega) only [qm,and_true,true_and])
 ·obtain ⟨hi,ha⟩:=hi
  repeat' (first | refine vs_ ?_ | ((first | refine vr_ ?_ | refine qa (qos _) fun _=>?_ | refine qa (qpu _) fun _=>?_ | (refine cs_ ?_ ?_<;>intro hc) | refine cj_ ?_ | simp (disch:=omega) only [qb,qm])<;>(try refine ev_ ?_)) | with_reducible exact ti_)
  all_goals first
   | (refine qbl (i + 1) [] ⟨⟨by omega, ?_⟩, by omega⟩ rfl (by simp) ?_ ?_ ?_ <;> (try refine ev_ ?_) <;> (try with_reducible exact ti_) <;> (try simp (disch := omega) only [qm, and_true, true_and])
      rw [← ha,qpv (l:=l) (i:=i) (by omega)]
      simp_all [onW,qci]
      try omega)
   | (rw [← ha,show i = l.length by omega,List.drop_length];rfl)
   | (rw [← ha, qpv (l := l) (i := i) (by omega)]
      simp_all [onW,qci]
      try omega)

def wordsW:List (List UInt8):=[[100,97,116,97],[99,108,97,115,115],[105,110,115,116,97,110,99,101],[119,104,101,114,101],[108,101,116],[105,110],[99,97,115,101],[111,102],[105,102],[116,104,101,110],[101,108,115,101]]
def resW (l:List UInt8):Bool:=wordsW.contains l
theorem q3s:(wordsW.map AV.str).length = 11:=rfl
theorem q8w {i:Nat} (h:i < 11):(wordsW.map AV.str).getD i .junk = .str (wordsW.getD i []):=by
 have h':i < wordsW.length:=h
 rw [List.getD_eq_getElem?_getD,List.getElem?_map,List.getD_eq_getElem?_getD,List.getElem?_eq_getElem h'];rfl
theorem qrg {i:Nat} (h:i < 11):wordsW.drop i = wordsW.getD i [] :: wordsW.drop (i + 1):=by
 have h':i < wordsW.length:=h
 rw [List.drop_eq_getElem_cons h',List.getD_eq_getElem?_getD,List.getElem?_eq_getElem h'];rfl
theorem qjz (l:List UInt8):qq Tryz.prog 144 [.str l] (.bool (resW l)):=by
 refine qg c0cj (by simp) (by simp only [go_sem]) rfl fun hw=>?_
 repeat' (first | refine vs_ ?_ | ((first | refine vr_ ?_ | (refine cs_ ?_ ?_<;>intro hc) | refine cj_ ?_ | simp (disch:=omega) only [qb,qm])<;>(try refine ev_ ?_)) | with_reducible exact ti_)
 refine qcc (S:=Nat) (fun i=>i≤11∧(wordsW.drop i).contains l = resW l) (fun i=>(⟨[(0,.str l),(3,.bool false),(6,.agg (wordsW.map AV.str)),(7,.int .i64 i)],[]⟩,[])) (fun i=>11 - i) ?_ fun i hi=>?_
 ·refine qbl 0 [] ⟨Nat.zero_le _,rfl⟩ rfl (by simp) ?_ ?_ ?_<;>(try refine ev_ ?_)<;>(try with_reducible exact ti_)<;>(try simp (disch:=omega) only [qm,and_true,true_and])
  exact ⟨rfl,rfl⟩
 ·obtain ⟨hi,ha⟩:=hi
  repeat' (first | refine vs_ ?_ | ((first | refine vr_ ?_ | (refine cs_ ?_ ?_<;>intro hc) | refine cj_ ?_ | simp (disch:=omega) only [qb,qm])<;>(try refine ev_ ?_)) | with_reducible exact ti_)
  ·simp (disch:=omega) only [q3s,q8w,Nat.mul_one]
   refine ⟨by omega,?_⟩
   repeat' (first | refine vs_ ?_ | ((first | refine vr_ ?_ | (refine cs_ ?_ ?_<;>intro hc) | refine cj_ ?_ | simp (disch:=omega) only [qb,qm])<;>(try refine ev_ ?_)) | with_reducible exact ti_)
   ·refine qbl (i + 1) [] ⟨⟨by omega,?_⟩,by omega⟩ rfl (by simp) ?_ ?_ ?_<;>(try refine ev_ ?_)<;>(try with_reducible exact ti_)<;>(try simp (disch:=omega) only [qm,and_true,true_and])
    ·rw [← ha,qrg (i:=i) (by omega),List.contains_cons]
     rw [show (l == wordsW.getD i []) = false by simpa using fun h=>hc h.symm];simp
    ·have:i < maxLen:=by unfold maxLen;omega
     rw [qm this]
     exact ⟨⟨rfl,rfl⟩,rfl⟩
   ·rw [← ha,qrg (i:=i) (by omega),List.contains_cons,show (l == wordsW.getD i []) = true by simpa using hc.symm];rfl
  ·rw [← ha,show i = 11 by omega];rfl
def conW (l:List UInt8):Bool:=decide (l≠[]) && qpd (l.getD 0 0).toNat && onsW l
theorem qfh (l:List UInt8):qq Tryz.prog 91 [.str l] (.bool (conW l)):=by
 refine qg c0ck (by simp) (by simp only [go_sem]) rfl fun hw=>?_
 have hl:l.length≤maxLen:=hw.1
 repeat' (first | refine vs_ ?_ | ((first | refine vr_ ?_ | refine qa (qrc _) fun _=>?_ | refine qa (qpu _) fun _=>?_ | (refine cs_ ?_ ?_<;>intro hc) | refine cj_ ?_ | simp (disch:=omega) only [qb,qm])<;>(try refine ev_ ?_)) | with_reducible exact ti_)
 all_goals simp_all [conW]
theorem q8e {l:List UInt8} (h:¬ l = []):onsW l = (onW (l.getD 0 0).toNat && onsW (l.drop 1)):=qpv (l:=l) (i:=0) (qom h)
def varW (l:List UInt8):Bool:=decide (l≠[]) && decide (l≠[95]) && qq6 (l.getD 0 0).toNat && onsW l && !resW l
theorem qiz (l:List UInt8):qq Tryz.prog 90 [.str l] (.bool (varW l)):=by
 refine qg c0cl (by simp) (by simp only [go_sem]) rfl fun hw=>?_
 have hl:l.length≤maxLen:=hw.1
 repeat' (first | refine vs_ ?_ | ((first | refine vr_ ?_ | refine qa (qrc _) fun _=>?_ | refine qa (qos _) fun _=>?_ | refine qa (qjz _) fun _=>?_ | (refine cs_ ?_ ?_<;>intro hc) | refine cj_ ?_ | simp (disch:=omega) only [qb,qm])<;>(try refine ev_ ?_)) | with_reducible exact ti_)
 all_goals simp_all [varW]
end Go.Proofs.YtlmcofjcpadmiaaGreat
