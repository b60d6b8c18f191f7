/- Texts of this proof, joined. -/
import Derived.Test.YtlmcofjcpadmiaaGreatWaj
import Derived.Test.YtlmcofjcpadmiaaGreatWam
set_option linter.unusedVariables false
set_option linter.unusedSimpArgs false

/- trees: count, Few, Size, Depth -/
set_option maxRecDepth 4000
namespace Go.Proofs.YtlmcofjcpadmiaaGreat
open Go Go.RowKit Go.V

/-! count, Few -/
mutual
def cntW:N->Int->Int
 | .mk _ _ _ _ ks,k=>qgb (IntKind.i64.wrap (k - 1)) ks
def qgb:Int->List N->Int
 | a,[]=>a
 | a,x :: r=>if 0≤a then qgb (cntW x a) r else a
end
theorem qsp (n:N) (k:Int):cntW n k = qgb (IntKind.i64.wrap (k - 1)) n.kids:=by cases n;rw [cntW];rfl
theorem qsw {a:Int} (h:a < 0) (l:List N):qgb a l = a:=by
 cases l with
 | nil=>rfl
 | cons x r=>rw [qgb,if_neg (by omega)]
theorem q5v:∀ n k,qh Tryz.prog 32 [enc n,.int .i64 k] (.int .i64 (cntW n k)):=by
 refine N.ind fun n ih k=>?_
 refine qe c0co (by simp) (by simp only [go_sem]) rfl fun hw=>?_
 have hkl:n.kids.length≤maxLen:=((qb9 n).1 hw.1).1
 repeat' (first | refine vs_ ?_ | ((first | refine vr_ ?_ | (refine cs_ ?_ ?_<;>intro hc) | refine cj_ ?_ | simp (disch:=omega) only [qb,qf])<;>(try refine ev_ ?_)) | with_reducible exact ti_)
 refine qt (S:=Nat×Int) (fun s=>s.1≤n.kids.length∧qgb s.2 (n.kids.drop s.1) = cntW n k) (fun s=>(⟨[(1,.int .i64 s.2),(2,.ptr 0 0),(5,.int .i64 s.1)],[]⟩,[.blk (enc n).cells])) (fun s=>n.kids.length - s.1) ?_ fun s hs=>?_
 ·refine qs (0,IntKind.i64.wrap (k - 1)) [0] ⟨Nat.zero_le _,(qsp n k).symm⟩ rfl (by simp) ?_ ?_ ?_<;>(refine ev_ ?_;(try with_reducible exact ti_))
 ·obtain ⟨i,a⟩:=s
  obtain ⟨hi,ha⟩:=hs
  dsimp only at hi ha
  repeat' (first | refine vs_ ?_ | ((first | refine vr_ ?_ | refine qa (ih _ (qg (by omega)) _) fun _=>?_ | (refine cs_ ?_ ?_<;>intro hc) | refine cj_ ?_ | simp (disch:=omega) only [qb,qf])<;>(try refine ev_ ?_)) | with_reducible exact ti_)
  ·refine qs (i + 1,cntW (n.kids.getD i N0) a) [0] ⟨⟨by omega,?_⟩,by omega⟩ rfl (by simp) ?_ ?_ ?_<;>(try refine ev_ ?_)<;>(try with_reducible exact ti_)<;>(try simp (disch:=omega) only [qf,and_true,true_and])
   rw [← ha,qp4 (l:=n.kids) (i:=i) (by omega),qgb,if_pos (by assumption)]
  ·rw [← ha,qsw (by omega)]
  ·rw [← ha,show i = n.kids.length by omega,List.drop_length];rfl

def fewW (n:N):Bool:=decide (0≤cntW n 3000)
theorem few7 (n:N):qh Tryz.prog 7 [enc n] (.int .i64 (if fewW n then 1 else 0)):=by
 refine qe c0cp (by simp) (by simp only [go_sem]) rfl fun hw=>?_
 repeat' (first | refine vs_ ?_ | ((first | refine vr_ ?_ | refine qa (q5v _ _) fun _=>?_ | (refine cs_ ?_ ?_<;>intro hc) | refine cj_ ?_ | fail)<;>(try refine ev_ ?_)) | with_reducible exact ti_)
 ·rw [if_neg (by simp [fewW];omega)]
 ·rw [if_pos (by simp [fewW];omega)]

/-! the references -/
mutual
def qmr:N->Int
 | .mk _ _ _ _ ks=>qjf 1 ks
def qjf:Int->List N->Int
 | a,[]=>a
 | a,x :: r=>qjf (IntKind.i64.wrap (a + qmr x)) r
end
theorem qvd (n:N):qmr n = qjf 1 n.kids:=by cases n;rw [qmr];rfl
mutual
def depR:N->Int
 | .mk _ _ _ _ ks=>IntKind.i64.wrap (ql8 0 ks + 1)
def ql8:Int->List N->Int
 | a,[]=>a
 | a,x :: r=>ql8 (if depR x > a then depR x else a) r
end
theorem qsh (n:N):depR n = IntKind.i64.wrap (ql8 0 n.kids + 1):=by cases n;rw [depR];rfl
theorem q92:∀ n,qh Tryz.prog 117 [enc n] (.int .i64 (depR n)):=by
 refine N.ind fun n ih=>?_
 refine qe c0cq (by simp) (by simp only [go_sem]) rfl fun hw=>?_
 have hkl:n.kids.length≤maxLen:=((qb9 n).1 hw.1).1
 repeat' (first | refine vs_ ?_ | ((first | refine vr_ ?_ | (refine cs_ ?_ ?_<;>intro hc) | refine cj_ ?_ | simp (disch:=omega) only [qb,qf])<;>(try refine ev_ ?_)) | with_reducible exact ti_)
 refine qt (S:=Nat×Int) (fun s=>s.1≤n.kids.length∧IntKind.i64.wrap (ql8 s.2 (n.kids.drop s.1) + 1) = depR n) (fun s=>(⟨[(1,.ptr 0 0),(3,.int .i64 s.2),(4,.int .i64 s.1)],[]⟩,[.blk (enc n).cells])) (fun s=>n.kids.length - s.1) ?_ fun s hs=>?_
 ·refine qs (0,0) [0] ⟨Nat.zero_le _,(qsh n).symm⟩ rfl (by simp) ?_ ?_ ?_<;>(try refine ev_ ?_)<;>(try with_reducible exact ti_)<;>(try simp (disch:=omega) only [qf,and_true,true_and])
 ·obtain ⟨i,a⟩:=s
  obtain ⟨hi,ha⟩:=hs
  dsimp only at hi ha
  repeat' (first | refine vs_ ?_ | ((first | refine vr_ ?_ | refine qa (ih _ (qg (by omega))) fun _=>?_ | (refine cs_ ?_ ?_<;>intro hc) | refine cj_ ?_ | simp (disch:=omega) only [qb,qf])<;>(try refine ev_ ?_)) | with_reducible exact ti_)
  ·refine qs (i + 1,if depR (n.kids.getD i N0) > a then depR (n.kids.getD i N0) else a) [0] ⟨⟨by omega,?_⟩,by omega⟩ rfl (by simp) ?_ ?_ ?_<;>(try refine ev_ ?_)<;>(try with_reducible exact ti_)<;>(try simp (disch:=omega) only [qf,and_true,true_and])
   rw [← ha,qp4 (l:=n.kids) (i:=i) (by omega),ql8]
  ·rw [← ha,show i = n.kids.length by omega,List.drop_length];rfl
set_option maxRecDepth 4000

structure Yld (α:Type) where
 m:Nat
 hs:α->List Ent
 i:Nat
 step:α->Int->N->α×Bool
 len:∀ s,(hs s).length = m
 bd:∀ s,(hs s).all (Ent.bd m) = true
 lt:i < m
 live:α->Prop
 keep:∀ s l n,live s->(step s l n).2 = true->live (step s l n).1
 app:∀ s l n,live s->VApp Tryz.prog (hs s) (.opq i) [.int .i64 l,enc n] (fun H' o=>H' = hs (step s l n).1∧o = .val (.bool (step s l n).2))

theorem qba1 {α:Type} (y:Yld α) (s:α):(y.hs s).length = y.m:=y.len s
theorem qbg1 {α:Type} (y:Yld α) (s:α):(y.hs s).all (Ent.bd y.m) = true:=y.bd s
theorem qyi {α:Type} (y:Yld α) (s:α) (L:List Ent):(y.hs s ++ L).take y.m = y.hs s:=by rw [← y.len s];simp
theorem q63 {α:Type} (y:Yld α) (s:α):(y.hs s).all (Ent.bd (y.m + 1)) = true:=q6h (by omega) (y.bd s)
theorem qbas {α:Type} (y:Yld α):decide (y.i < y.m + 1) = true:=by have:=y.lt;simp;omega
attribute [go_sem] qba1 qbg1 qyi q63 qbas
section
variable {α:Type} (y:Yld α)
theorem q4e {s:α} {l:Int} {n:N} {L:List Ent} {Q:List Ent->VO->Prop} (hlv:y.live s) (h:Q (y.hs (y.step s l n).1 ++ L) (.val (.bool (y.step s l n).2))):VApp Tryz.prog (y.hs s ++ L) (.opq y.i) [.int .i64 l,enc n] Q:=by
 refine qvb (y.app s l n hlv) (by rw [y.len];exact y.bd s) (by rw [y.len];simpa [AV.bd] using y.lt) (by simp only [go_sem]) ?_
 rintro H1 o ⟨rfl,rfl⟩
 exact ⟨by rw [y.len,y.len],by rw [y.len];exact y.bd _,rfl,h⟩
theorem qr1 {s s':α} {b:Bool} {l:Int} {n:N} {L:List Ent} {Q:List Ent->VO->Prop} (hc:VCalls Tryz.prog 141 (y.hs s) [enc n,.int .i64 l,.opq y.i] (fun H' o=>H' = y.hs s'∧o = .val (.bool b))) (h:Q (y.hs s' ++ L) (.val (.bool b))):VApp Tryz.prog (y.hs s ++ L) (.fn 141 [] []) [enc n,.int .i64 l,.opq y.i] Q:=by
 refine qj6 (first:=[]) (caps:=[]) ?_
 simp only [List.nil_append,List.append_nil]
 have:=y.lt
 refine qo0 hc (by rw [y.len];exact y.bd s) (by simp only [go_sem,this]) ?_
 rintro H1 o ⟨rfl,rfl⟩
 exact ⟨by rw [y.len,y.len],by rw [y.len];exact y.bd _,rfl,h⟩
mutual
def qbu (f:α->Int->N->α×Bool):N->Int->α->α×Bool
 | .mk k p n t ks,l,s=>if (f s l (.mk k p n t ks)).2 then qb6 f (IntKind.i64.wrap (l + 1)) ks (f s l (.mk k p n t ks)).1 else ((f s l (.mk k p n t ks)).1,false)
def qb6 (f:α->Int->N->α×Bool):Int->List N->α->α×Bool
 | l,[],s=>(s,true)
 | l,x :: r,s=>if (qbu f x l s).2 then qb6 f l r (qbu f x l s).1 else ((qbu f x l s).1,false)
end
theorem qep (f:α->Int->N->α×Bool) (n:N) (l:Int) (s:α):qbu f n l s = if (f s l n).2 then qb6 f (IntKind.i64.wrap (l + 1)) n.kids (f s l n).1 else ((f s l n).1,false):=by cases n;rw [qbu];rfl

theorem qi5 (l:Int):∀ (r:List N),(∀ x∈r,∀ l s,y.live s->(qbu y.step x l s).2 = true->y.live (qbu y.step x l s).1)->∀ s,y.live s->(qb6 y.step l r s).2 = true->y.live (qb6 y.step l r s).1
 | [],_,s,h,_=>h
 | x :: r, hx, s, h, h2 => by
   rw [qb6] at h2 ⊢
   split at h2
   ·rename_i h3
    rw [if_pos h3]
    exact qi5 l r (fun x hx'=>hx x (by simp [hx'])) _ (hx x (by simp) l s h h3) h2
   ·cases h2
theorem qtk:∀ n l s,y.live s->(qbu y.step n l s).2 = true->y.live (qbu y.step n l s).1:=by
 refine N.ind fun n ih l s h h2=>?_
 rw [qep] at h2 ⊢
 split at h2
 ·rename_i h3
  rw [if_pos h3]
  exact qi5 y _ n.kids ih _ (y.keep s l n h h3) h2
 ·cases h2

theorem qbjf:∀ n l s,y.live s->VCalls Tryz.prog 141 (y.hs s) [enc n,.int .i64 l,.opq y.i] (fun H' o=>H' = y.hs (qbu y.step n l s).1∧o = .val (.bool (qbu y.step n l s).2)):=by
 refine N.ind fun n ih l s hlv=>?_
 have hlen:=y.len
 have hlt:=y.lt
 refine qk2 (by kernel_rfl) fun hw=>?_
 have hkl:n.kids.length≤maxLen:=((qb9 n).1 hw.1).1
 have hbd:∀ s,(y.hs s).all (Ent.bd (y.hs s).length) = true:=fun s=>by rw [y.len];exact y.bd s
 refine qeb c0cl y.m (by rw [hlen];exact Nat.le_refl _) (by simp) ?_
 repeat' (first | refine vs_ ?_ | ((first | refine vr_ ?_ | refine q4e y hlv ?_ | (refine cs_ ?_ ?_<;>intro hc) | refine cj_ ?_ | simp (disch:=omega) only [qb,qf])<;>(try refine ev_ ?_)) | with_reducible exact ti_)
 ·rw [qep,if_neg (by simpa using hc)]
  exact ⟨rfl,rfl⟩
 ·refine qt (S:=Nat×α) (fun s'=>y.live s'.2∧s'.1≤n.kids.length∧qb6 y.step (IntKind.i64.wrap (l + 1)) (n.kids.drop s'.1) s'.2 = qbu y.step n l s) (fun s'=>(⟨[(1,.int .i64 l),(2,.opq y.i),(15,.sl 5 (encs n.kids)),(16,.int .i64 n.kids.length),(17,.int .i64 s'.1)],[]⟩,y.hs s'.2 ++ [.blk (enc n).cells])) (fun s=>n.kids.length - s.1) ?_ fun s' hs'=>?_
  ·refine qz9 (0,(y.step s l n).1) [] ⟨y.keep s l n hlv (by simpa using hc),Nat.zero_le _,?_⟩ ?_ ?_ ?_ ?_ ?_ ?_<;>(try refine ev_ ?_)<;>(try with_reducible exact ti_)<;>(try simp (disch:=omega) only [qf,and_true,true_and])
   rw [qep,if_pos (by simpa using hc)]
  ·obtain ⟨i,a⟩:=s'
   obtain ⟨hla,hi,ha⟩:=hs'
   dsimp only at hi ha hla
   have hstep:i < n.kids.length->qbu y.step n l s = if (qbu y.step (n.kids.getD i N0) (IntKind.i64.wrap (l + 1)) a).2 then qb6 y.step (IntKind.i64.wrap (l + 1)) (n.kids.drop (i + 1)) (qbu y.step (n.kids.getD i N0) (IntKind.i64.wrap (l + 1)) a).1 else ((qbu y.step (n.kids.getD i N0) (IntKind.i64.wrap (l + 1)) a).1,false):=fun h=>by
    rw [← ha,qp4 (l:=n.kids) (i:=i) h,qb6]
   repeat' (first | refine vs_ ?_ | ((first | refine vr_ ?_ | refine qr1 y (ih _ (qg (by omega)) _ _ hla) ?_ | (refine cs_ ?_ ?_<;>intro hc) | refine cj_ ?_ | simp (disch:=omega) only [qb,qf])<;>(try refine ev_ ?_)) | with_reducible exact ti_)
   ·rw [hstep (by omega),if_neg (by simpa using hc)]
    exact ⟨rfl,rfl⟩
   ·refine qz9 (i + 1,(qbu y.step (n.kids.getD i N0) (IntKind.i64.wrap (l + 1)) a).1) [.blk (enc (n.kids.getD i N0)).cells] ⟨⟨qtk y _ _ _ hla (by simpa using hc),by omega,?_⟩,by omega⟩ ?_ ?_ ?_ ?_ ?_ ?_<;>(try refine ev_ ?_)<;>(try with_reducible exact ti_)<;>(try simp (disch:=omega) only [qf,and_true,true_and])
    rw [hstep (by omega),if_pos (by simpa using hc)]
   ·rw [← ha,show i = n.kids.length by omega,List.drop_length]
    exact ⟨rfl,rfl⟩

theorem qw7 {s s':α} {b:Bool} {l:Int} {n:N} {Q:List Ent->VO->Prop} (hc:VCalls Tryz.prog 141 (y.hs s) [enc n,.int .i64 l,.opq y.i] (fun H' o=>H' = y.hs s'∧o = .val (.bool b))) (h:Q (y.hs s') (.val (.bool b))):VApp Tryz.prog (y.hs s) (.fn 141 [] []) [enc n,.int .i64 l,.opq y.i] Q:=by
 have:=qr1 y (L:=[]) (Q:=Q) hc (by simpa using h)
 simpa using this

theorem qbld {n:N} {l:Int} {s:α} {p q:Nat} (hlv:y.live s) (hp:ent (y.hs s) p = .blk (nc n)) (hq:ent (y.hs s) q = .blk [.int .i64 l]):VCalls Tryz.prog 140 (y.hs s) [.opq y.i,.ptr p 0,.ptr q 0] (fun H' o=>H' = y.hs (qbu y.step n l s).1∧o = .val (.tup [])):=by
 refine qeb c0cm y.m (by rw [y.len];exact Nat.le_refl _) (by simp) ?_
 have ht:∀ s,(y.hs s).take y.m = y.hs s:=fun s=>by rw [← y.len s];simp
 refine qny ?_
 simp only [go_sem,hp,hq,↓reduceIte,Nat.reduceEqDiff,Nat.reduceAdd,Nat.reduceSub,Nat.reduceMul,Nat.reduceLT,Nat.reduceLeDiff,reduceCtorEq,Int.reduceToNat]
 refine qw7 y (qbjf y _ _ _ hlv) ?_
 simp only [go_sem,ht,↓reduceIte,Nat.reduceEqDiff,Nat.reduceAdd,Nat.reduceSub,Nat.reduceMul,Nat.reduceLT,Nat.reduceLeDiff,reduceCtorEq,Int.reduceToNat]
end

theorem qbkw (n:N) (l:Int):VCalls Tryz.prog 88 [] [enc n,.int .i64 l] (fun H o=>H = [.blk (enc n).cells,.blk [.int .i64 l]]∧o = .val (.fn 140 [] [.ptr 0 0,.ptr 1 0])):=by
 refine qeb c0cn 2 (by simp) (by simp) ?_
 repeat' (first | refine vs_ ?_ | ((first | refine vr_ ?_ | (refine cs_ ?_ ?_<;>intro hc) | refine cj_ ?_ | fail)<;>(try refine ev_ ?_)) | with_reducible exact ti_)

/-! Size -/
/-! Depth -/
set_option maxRecDepth 4000

/-! Strip -/
theorem qrs {l:List N} {i:Nat} (h:i < l.length):l.take (i + 1) = l.take i ++ [l.getD i N0]:=by
 rw [List.take_add_one,List.getD_eq_getElem?_getD,List.getElem?_eq_getElem h];rfl
end Go.Proofs.YtlmcofjcpadmiaaGreat
