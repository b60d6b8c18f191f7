/- Texts of this proof, joined. -/
import Derived.Test.YtlmcofjcpadmiaaPaj
import Derived.Test.YtlmcofjcpadmiaaPam
set_option linter.unusedVariables false
set_option linter.unusedSimpArgs false

/- trees: count, Few, Size, Depth -/
set_option maxRecDepth 4000
namespace Go.Proofs.Ytlmcofjcpadmiaa
open Go Go.RowKit Go.V

/-! count, Few -/
mutual
def cntW:N->Int->Int
 | .mk _ _ _ _ ks,k=>qgv (IntKind.i64.wrap (k - 1)) ks
def qgv:Int->List N->Int
 | a,[]=>a
 | a,x :: r=>if 0≤a then qgv (cntW x a) r else a
end
theorem qtj (n:N) (k:Int):cntW n k = qgv (IntKind.i64.wrap (k - 1)) n.kids:=by cases n;rw [cntW];rfl
theorem qt0 {a:Int} (h:a < 0) (l:List N):qgv a l = a:=by
 cases l with
 | nil=>rfl
 | cons x r=>rw [qgv,if_neg (by omega)]
theorem q3k:∀ n k,qm Try.prog 9 [enc n,.int .i64 k] (.int .i64 (cntW n k)):=by
 refine N.ind fun n ih k=>?_
 refine qh c0ca (by simp) (by simp only [go_sem]) rfl fun hw=>?_
 have hkl:n.kids.length≤maxLen:=((qfv n).1 hw.1).1
 repeat' (first | refine vs_ ?_ | ((first | refine vr_ ?_ | (refine cs_ ?_ ?_<;>intro hc) | refine cj_ ?_ | simp (disch:=omega) only [qd,qo])<;>(try refine ev_ ?_)) | with_reducible exact ti_)
 refine qfb (S:=Nat×Int) (fun s=>s.1≤n.kids.length∧qgv s.2 (n.kids.drop s.1) = cntW n k) (fun s=>(⟨[(1,.int .i64 s.2),(2,.ptr 0 0),(5,.int .i64 s.1)],[]⟩,[.blk (enc n).cells])) (fun s=>n.kids.length - s.1) ?_ fun s hs=>?_
 ·refine qfp (0,IntKind.i64.wrap (k - 1)) [0] ⟨Nat.zero_le _,(qtj n k).symm⟩ rfl (by simp) ?_ ?_ ?_<;>(refine ev_ ?_;(try with_reducible exact ti_))
 ·obtain ⟨i,a⟩:=s
  obtain ⟨hi,ha⟩:=hs
  dsimp only at hi ha
  repeat' (first | refine vs_ ?_ | ((first | refine vr_ ?_ | refine qa (ih _ (qe (by omega)) _) fun _=>?_ | (refine cs_ ?_ ?_<;>intro hc) | refine cj_ ?_ | simp (disch:=omega) only [qd,qo])<;>(try refine ev_ ?_)) | with_reducible exact ti_)
  ·refine qfp (i + 1,cntW (n.kids.getD i N0) a) [0] ⟨⟨by omega,?_⟩,by omega⟩ rfl (by simp) ?_ ?_ ?_<;>(try refine ev_ ?_)<;>(try with_reducible exact ti_)<;>(try simp (disch:=omega) only [qo,and_true,true_and])
   rw [← ha,qo2 (l:=n.kids) (i:=i) (by omega),qgv,if_pos (by assumption)]
  ·rw [← ha,qt0 (by omega)]
  ·rw [← ha,show i = n.kids.length by omega,List.drop_length];rfl

def fewW (n:N):Bool:=decide (0≤cntW n 3000)
theorem few7 (n:N):qm Try.prog 4 [enc n] (.int .i64 (if fewW n then 1 else 0)):=by
 refine qh c0cb (by simp) (by simp only [go_sem]) rfl fun hw=>?_
 repeat' (first | refine vs_ ?_ | ((first | refine vr_ ?_ | refine qa (q3k _ _) fun _=>?_ | (refine cs_ ?_ ?_<;>intro hc) | refine cj_ ?_ | fail)<;>(try refine ev_ ?_)) | with_reducible exact ti_)
 ·rw [if_neg (by simp [fewW];omega)]
 ·rw [if_pos (by simp [fewW];omega)]

/-! the references -/
mutual
def qpm:N->Int
 | .mk _ _ _ _ ks=>qkp 1 ks
def qkp:Int->List N->Int
 | a,[]=>a
 | a,x :: r=>qkp (IntKind.i64.wrap (a + qpm x)) r
end
theorem qzf (n:N):qpm n = qkp 1 n.kids:=by cases n;rw [qpm];rfl
mutual
def depR:N->Int
 | .mk _ _ _ _ ks=>IntKind.i64.wrap (qr3 0 ks + 1)
def qr3:Int->List N->Int
 | a,[]=>a
 | a,x :: r=>qr3 (if depR x > a then depR x else a) r
end
theorem q61 (n:N):depR n = IntKind.i64.wrap (qr3 0 n.kids + 1):=by cases n;rw [depR];rfl
set_option maxRecDepth 4000

structure Yld (α:Type) where
 m:Nat
 hs:α->List Ent
 i:Nat
 step:α->Int->N->α×Bool
 len:∀ s,(hs s).length = m
 bd:∀ s,(hs s).all (Ent.bd m) = true
 lt:i < m
 live:α->Prop
 keep:∀ s l n,live s->(step s l n).2 = true->live (step s l n).1
 app:∀ s l n,live s->VApp Try.prog (hs s) (.opq i) [.int .i64 l,enc n] (fun H' o=>H' = hs (step s l n).1∧o = .val (.bool (step s l n).2))

theorem q2e {α:Type} (y:Yld α) (s:α):(y.hs s).length = y.m:=y.len s
theorem qbfy {α:Type} (y:Yld α) (s:α):(y.hs s).all (Ent.bd y.m) = true:=y.bd s
theorem qzt {α:Type} (y:Yld α) (s:α) (L:List Ent):(y.hs s ++ L).take y.m = y.hs s:=by rw [← y.len s];simp
theorem q3t {α:Type} (y:Yld α) (s:α):(y.hs s).all (Ent.bd (y.m + 1)) = true:=q6a (by omega) (y.bd s)
theorem q45 {α:Type} (y:Yld α):decide (y.i < y.m + 1) = true:=by have:=y.lt;simp;omega
attribute [go_sem] q2e qbfy qzt q3t q45
section
variable {α:Type} (y:Yld α)
theorem q80 {s:α} {l:Int} {n:N} {L:List Ent} {Q:List Ent->VO->Prop} (hlv:y.live s) (h:Q (y.hs (y.step s l n).1 ++ L) (.val (.bool (y.step s l n).2))):VApp Try.prog (y.hs s ++ L) (.opq y.i) [.int .i64 l,enc n] Q:=by
 refine qxw (y.app s l n hlv) (by rw [y.len];exact y.bd s) (by rw [y.len];simpa [AV.bd] using y.lt) (by simp only [go_sem]) ?_
 rintro H1 o ⟨rfl,rfl⟩
 exact ⟨by rw [y.len,y.len],by rw [y.len];exact y.bd _,rfl,h⟩
theorem quv {s s':α} {b:Bool} {l:Int} {n:N} {L:List Ent} {Q:List Ent->VO->Prop} (hc:VCalls Try.prog 36 (y.hs s) [enc n,.int .i64 l,.opq y.i] (fun H' o=>H' = y.hs s'∧o = .val (.bool b))) (h:Q (y.hs s' ++ L) (.val (.bool b))):VApp Try.prog (y.hs s ++ L) (.fn 36 [] []) [enc n,.int .i64 l,.opq y.i] Q:=by
 refine ql0 (first:=[]) (caps:=[]) ?_
 simp only [List.nil_append,List.append_nil]
 have:=y.lt
 refine qrp hc (by rw [y.len];exact y.bd s) (by simp only [go_sem,this]) ?_
 rintro H1 o ⟨rfl,rfl⟩
 exact ⟨by rw [y.len,y.len],by rw [y.len];exact y.bd _,rfl,h⟩
mutual
def qb0 (f:α->Int->N->α×Bool):N->Int->α->α×Bool
 | .mk k p n t ks,l,s=>if (f s l (.mk k p n t ks)).2 then qb9 f (IntKind.i64.wrap (l + 1)) ks (f s l (.mk k p n t ks)).1 else ((f s l (.mk k p n t ks)).1,false)
def qb9 (f:α->Int->N->α×Bool):Int->List N->α->α×Bool
 | l,[],s=>(s,true)
 | l,x :: r,s=>if (qb0 f x l s).2 then qb9 f l r (qb0 f x l s).1 else ((qb0 f x l s).1,false)
end
theorem qem (f:α->Int->N->α×Bool) (n:N) (l:Int) (s:α):qb0 f n l s = if (f s l n).2 then qb9 f (IntKind.i64.wrap (l + 1)) n.kids (f s l n).1 else ((f s l n).1,false):=by cases n;rw [qb0];rfl

theorem qkt (l:Int):∀ (r:List N),(∀ x∈r,∀ l s,y.live s->(qb0 y.step x l s).2 = true->y.live (qb0 y.step x l s).1)->∀ s,y.live s->(qb9 y.step l r s).2 = true->y.live (qb9 y.step l r s).1
 | [],_,s,h,_=>h
 | x :: r, hx, s, h, h2 => by
   rw [qb9] at h2 ⊢
   split at h2
   ·rename_i h3
    rw [if_pos h3]
    exact qkt l r (fun x hx'=>hx x (by simp [hx'])) _ (hx x (by simp) l s h h3) h2
   ·cases h2
theorem qt4:∀ n l s,y.live s->(qb0 y.step n l s).2 = true->y.live (qb0 y.step n l s).1:=by
 refine N.ind fun n ih l s h h2=>?_
 rw [qem] at h2 ⊢
 split at h2
 ·rename_i h3
  rw [if_pos h3]
  exact qkt y _ n.kids ih _ (y.keep s l n h h3) h2
 ·cases h2

theorem qbbl:∀ n l s,y.live s->VCalls Try.prog 36 (y.hs s) [enc n,.int .i64 l,.opq y.i] (fun H' o=>H' = y.hs (qb0 y.step n l s).1∧o = .val (.bool (qb0 y.step n l s).2)):=by
 refine N.ind fun n ih l s hlv=>?_
 have hlen:=y.len
 have hlt:=y.lt
 refine qm7 (by kernel_rfl) fun hw=>?_
 have hkl:n.kids.length≤maxLen:=((qfv n).1 hw.1).1
 have hbd:∀ s,(y.hs s).all (Ent.bd (y.hs s).length) = true:=fun s=>by rw [y.len];exact y.bd s
 refine qfh c0bx y.m (by rw [hlen];exact Nat.le_refl _) (by simp) ?_
 repeat' (first | refine vs_ ?_ | ((first | refine vr_ ?_ | refine q80 y hlv ?_ | (refine cs_ ?_ ?_<;>intro hc) | refine cj_ ?_ | simp (disch:=omega) only [qd,qo])<;>(try refine ev_ ?_)) | with_reducible exact ti_)
 ·rw [qem,if_neg (by simpa using hc)]
  exact ⟨rfl,rfl⟩
 ·refine qfb (S:=Nat×α) (fun s'=>y.live s'.2∧s'.1≤n.kids.length∧qb9 y.step (IntKind.i64.wrap (l + 1)) (n.kids.drop s'.1) s'.2 = qb0 y.step n l s) (fun s'=>(⟨[(1,.int .i64 l),(2,.opq y.i),(15,.sl 5 (encs n.kids)),(16,.int .i64 n.kids.length),(17,.int .i64 s'.1)],[]⟩,y.hs s'.2 ++ [.blk (enc n).cells])) (fun s=>n.kids.length - s.1) ?_ fun s' hs'=>?_
  ·refine q0q (0,(y.step s l n).1) [] ⟨y.keep s l n hlv (by simpa using hc),Nat.zero_le _,?_⟩ ?_ ?_ ?_ ?_ ?_ ?_<;>(try refine ev_ ?_)<;>(try with_reducible exact ti_)<;>(try simp (disch:=omega) only [qo,and_true,true_and])
   rw [qem,if_pos (by simpa using hc)]
  ·obtain ⟨i,a⟩:=s'
   obtain ⟨hla,hi,ha⟩:=hs'
   dsimp only at hi ha hla
   have hstep:i < n.kids.length->qb0 y.step n l s = if (qb0 y.step (n.kids.getD i N0) (IntKind.i64.wrap (l + 1)) a).2 then qb9 y.step (IntKind.i64.wrap (l + 1)) (n.kids.drop (i + 1)) (qb0 y.step (n.kids.getD i N0) (IntKind.i64.wrap (l + 1)) a).1 else ((qb0 y.step (n.kids.getD i N0) (IntKind.i64.wrap (l + 1)) a).1,false):=fun h=>by
    rw [← ha,qo2 (l:=n.kids) (i:=i) h,qb9]
   repeat' (first | refine vs_ ?_ | ((first | refine vr_ ?_ | refine quv y (ih _ (qe (by omega)) _ _ hla) ?_ | (refine cs_ ?_ ?_<;>intro hc) | refine cj_ ?_ | simp (disch:=omega) only [qd,qo])<;>(try refine ev_ ?_)) | with_reducible exact ti_)
   ·rw [hstep (by omega),if_neg (by simpa using hc)]
    exact ⟨rfl,rfl⟩
   ·refine q0q (i + 1,(qb0 y.step (n.kids.getD i N0) (IntKind.i64.wrap (l + 1)) a).1) [.blk (enc (n.kids.getD i N0)).cells] ⟨⟨qt4 y _ _ _ hla (by simpa using hc),by omega,?_⟩,by omega⟩ ?_ ?_ ?_ ?_ ?_ ?_<;>(try refine ev_ ?_)<;>(try with_reducible exact ti_)<;>(try simp (disch:=omega) only [qo,and_true,true_and])
    rw [hstep (by omega),if_pos (by simpa using hc)]
   ·rw [← ha,show i = n.kids.length by omega,List.drop_length]
    exact ⟨rfl,rfl⟩

theorem qzw {s s':α} {b:Bool} {l:Int} {n:N} {Q:List Ent->VO->Prop} (hc:VCalls Try.prog 36 (y.hs s) [enc n,.int .i64 l,.opq y.i] (fun H' o=>H' = y.hs s'∧o = .val (.bool b))) (h:Q (y.hs s') (.val (.bool b))):VApp Try.prog (y.hs s) (.fn 36 [] []) [enc n,.int .i64 l,.opq y.i] Q:=by
 have:=quv y (L:=[]) (Q:=Q) hc (by simpa using h)
 simpa using this

theorem qbg4 {n:N} {l:Int} {s:α} {p q:Nat} (hlv:y.live s) (hp:ent (y.hs s) p = .blk (nc n)) (hq:ent (y.hs s) q = .blk [.int .i64 l]):VCalls Try.prog 35 (y.hs s) [.opq y.i,.ptr p 0,.ptr q 0] (fun H' o=>H' = y.hs (qb0 y.step n l s).1∧o = .val (.tup [])):=by
 refine qfh c0by y.m (by rw [y.len];exact Nat.le_refl _) (by simp) ?_
 have ht:∀ s,(y.hs s).take y.m = y.hs s:=fun s=>by rw [← y.len s];simp
 refine qp2 ?_
 simp only [go_sem,hp,hq,↓reduceIte,Nat.reduceEqDiff,Nat.reduceAdd,Nat.reduceSub,Nat.reduceMul,Nat.reduceLT,Nat.reduceLeDiff,reduceCtorEq,Int.reduceToNat]
 refine qzw y (qbbl y _ _ _ hlv) ?_
 simp only [go_sem,ht,↓reduceIte,Nat.reduceEqDiff,Nat.reduceAdd,Nat.reduceSub,Nat.reduceMul,Nat.reduceLT,Nat.reduceLeDiff,reduceCtorEq,Int.reduceToNat]
end

theorem qbgy (n:N) (l:Int):VCalls Try.prog 18 [] [enc n,.int .i64 l] (fun H o=>H = [.blk (enc n).cells,.blk [.int .i64 l]]∧o = .val (.fn 35 [] [.ptr 0 0,.ptr 1 0])):=by
 refine qfh c0bz 2 (by simp) (by simp) ?_
 repeat' (first | refine vs_ ?_ | ((first | refine vr_ ?_ | (refine cs_ ?_ ?_<;>intro hc) | refine cj_ ?_ | fail)<;>(try refine ev_ ?_)) | with_reducible exact ti_)

/-! Size -/
/-! Depth -/
set_option maxRecDepth 4000

mutual
def qgd:N->N->Bool
 | .mk k _ n t ks,.mk k' _ n' t' ks'=>decide (k = k') && decide (t = t') && decide (n = n') && qb5 ks ks'
def qb5:List N->List N->Bool
 | [],[]=>true
 | x :: r,y :: r'=>qgd x y && qb5 r r'
 | _,_=>false
end
theorem qeh (a b:N):qgd a b = (decide (a.kind = b.kind) && decide (a.text = b.text) && decide (a.num = b.num) && qb5 a.kids b.kids):=by cases a;cases b;rw [qgd];rfl
theorem qka:∀ {l l':List N},l.length≠l'.length->qb5 l l' = false
 | [],[],h=>absurd rfl h
 | [],y :: r',_=>by rw [qb5]<;>simp
 | x :: r,[],_=>by rw [qb5]<;>simp
 | x :: r,y :: r',h=>by rw [qb5,qka (l:=r) (l':=r') (by simpa using h)];simp
theorem qjg {l l':List N} {i:Nat} (h:i < l.length) (h':i < l'.length):qb5 (l.drop i) (l'.drop i) = (qgd (l.getD i N0) (l'.getD i N0) && qb5 (l.drop (i + 1)) (l'.drop (i + 1))):=by
 rw [qo2 h,qo2 h',qb5]
theorem qsl {l l':List N} {i:Nat} (h:l.length≤i) (h':l'.length≤i):qb5 (l.drop i) (l'.drop i) = true:=by
 rw [List.drop_of_length_le h,List.drop_of_length_le h',qb5]

theorem qyl {a b:N} {i:Nat} (h1:a.kind = b.kind) (h2:a.text = b.text) (h3:a.num = b.num) (ha:qb5 (a.kids.drop i) (b.kids.drop i) = qb5 a.kids b.kids):qgd a b = qb5 (a.kids.drop i) (b.kids.drop i):=by
 rw [ha,qeh];simp [h1,h2,h3]

theorem qr9:∀ a b,qm Try.prog 8 [enc a,enc b] (.bool (qgd a b)):=by
 refine N.ind fun a ih b=>?_
 refine qh c0bw (by simp) (by simp only [go_sem]) rfl fun hw=>?_
 have hkl:a.kids.length≤maxLen:=((qfv a).1 hw.1).1
 repeat' (first | refine vs_ ?_ | ((first | refine vr_ ?_ | (refine cs_ ?_ ?_<;>intro hc) | refine cj_ ?_ | simp (disch:=omega) only [qd,qo])<;>(try refine ev_ ?_)) | with_reducible exact ti_)
 ·rw [qeh];simp [*]
 ·rw [qeh];simp [*]
 ·rw [qeh];simp [*]
 ·rw [qeh,qka (by omega)];simp
 rename_i h1 h2 h3
 refine qfb (S:=Nat) (fun i=>i≤a.kids.length∧qb5 (a.kids.drop i) (b.kids.drop i) = qb5 a.kids b.kids) (fun i=>(⟨[(2,.ptr 0 0),(3,.ptr 1 0),(36,.int .i64 a.kids.length),(37,.int .i64 i)],[]⟩,[.blk (nc a),.blk (nc b)])) (fun i=>a.kids.length - i) ?_ fun i hi=>?_
 ·refine qfp 0 [0,1] ⟨Nat.zero_le _,rfl⟩ rfl (by simp) ?_ ?_ ?_<;>(try refine ev_ ?_)<;>(try with_reducible exact ti_)<;>(try simp (disch:=omega) only [qo,and_true,true_and])
 ·obtain ⟨hi,ha⟩:=hi
  have hf:=qyl h1 h2 h3 ha
  repeat' (first | refine vs_ ?_ | ((first | refine vr_ ?_ | refine qa (ih _ (qe (by omega)) _) fun _=>?_ | refine qc (ih _ (qe (by omega)) _) ?_ | (refine cs_ ?_ ?_<;>intro hc) | refine cj_ ?_ | simp (disch:=omega) only [qd,qo])<;>(try refine ev_ ?_)) | with_reducible exact ti_)
  ·rw [hf,qjg (by omega) (by omega),hc];rfl
  ·refine qfp (i + 1) [0,1] ⟨⟨by omega,?_⟩,by omega⟩ rfl (by simp) ?_ ?_ ?_<;>(try refine ev_ ?_)<;>(try with_reducible exact ti_)<;>(try simp (disch:=omega) only [qo,and_true,true_and])
   rw [← ha,qjg (l:=a.kids) (l':=b.kids) (i:=i) (by omega) (by omega),hc,Bool.true_and]
  ·rw [hf,qsl (by omega) (by omega)]

/-! Strip -/
mutual
def qf:N->N
 | .mk k _ n t ks=>.mk k 0 n t (qdf ks)
def qdf:List N->List N
 | []=>[]
 | x :: r=>qf x :: qdf r
end
theorem qb3 (n:N):qf n = .mk n.kind 0 n.num n.text (qdf n.kids):=by cases n;rw [qf];rfl
theorem qb2 (l:List N):qdf l = l.map qf:=by
 induction l with
 | nil=>rfl
 | cons x r ih=>rw [qdf,ih];rfl

theorem q2u {l:List N} {i:Nat} (h:i < l.length):l.take (i + 1) = l.take i ++ [l.getD i N0]:=by
 rw [List.take_add_one,List.getD_eq_getElem?_getD,List.getElem?_eq_getElem h];rfl
set_option maxRecDepth 4000

def qnv (c:Int):Bool:=decide (97≤c) && decide (c≤122) || decide (c = 95)
def qkf (c:Int):Bool:=decide (65≤c) && decide (c≤90)
def qbr (c:Int):Bool:=decide (48≤c) && decide (c≤57)

theorem qil (c:Int):qm Try.prog 37 [.int .u8 c] (.bool (qnv c)):=by
 refine qh c0cc (by simp) (by simp only [go_sem]) rfl fun hw=>?_
 repeat' (first | refine vs_ ?_ | ((first | refine vr_ ?_ | (refine cs_ ?_ ?_<;>intro hc) | refine cj_ ?_ | fail)<;>(try refine ev_ ?_)) | with_reducible exact ti_)
 all_goals simp [qnv, *]
theorem qih (c:Int):qm Try.prog 40 [.int .u8 c] (.bool (qkf c)):=by
 refine qh c0cd (by simp) (by simp only [go_sem]) rfl fun hw=>?_
 repeat' (first | refine vs_ ?_ | ((first | refine vr_ ?_ | (refine cs_ ?_ ?_<;>intro hc) | refine cj_ ?_ | fail)<;>(try refine ev_ ?_)) | with_reducible exact ti_)
 all_goals simp [qkf, *]
def onW (c:Int):Bool:=qnv c || qkf c || qbr c || decide (c = 39)
def onsW (l:List UInt8):Bool:=l.all fun c=>onW c.toNat
theorem qmj {l:List UInt8} {i:Nat} (h:i < l.length):l.drop i = l.getD i 0 :: l.drop (i + 1):=by
 rw [List.drop_eq_getElem_cons h,List.getD_eq_getElem?_getD,List.getElem?_eq_getElem h];rfl
theorem qjd {l:List UInt8} {i:Nat} (h:i < l.length):onsW (l.drop i) = (onW (l.getD i 0).toNat && onsW (l.drop (i + 1))):=by
 rw [qmj h];rfl
theorem qk8 (l:List UInt8):qm Try.prog 38 [.str l] (.bool (onsW l)):=by
 refine qh c0ce (by simp) (by simp only [go_sem]) rfl fun hw=>?_
 have hl:l.length≤maxLen:=hw.1
 repeat' (first | refine vs_ ?_ | ((first | refine vr_ ?_ | (refine cs_ ?_ ?_<;>intro hc) | refine cj_ ?_ | simp (disch:=omega) only [qd,qo])<;>(try refine ev_ ?_)) | with_reducible exact ti_)
 refine qfb (S:=Nat) (fun i=>i≤l.length∧onsW (l.drop i) = onsW l) (fun i=>(⟨[(0,.str l),(6,.int .i64 l.length),(7,.int .i64 i)],[]⟩,[])) (fun i=>l.length - i) ?_ fun i hi=>?_
 ·refine qfp 0 [] ⟨Nat.zero_le _,rfl⟩ rfl (by simp) ?_ ?_ ?_<;>(try refine ev_ ?_)<;>(try with_reducible exact ti_)<;>(try simp (disch:=omega) only [qo,and_true,true_and])
 ·obtain ⟨hi,ha⟩:=hi
  repeat' (first | refine vs_ ?_ | ((first | refine vr_ ?_ | refine qa (qil _) fun _=>?_ | refine qa (qih _) fun _=>?_ | (refine cs_ ?_ ?_<;>intro hc) | refine cj_ ?_ | simp (disch:=omega) only [qd,qo])<;>(try refine ev_ ?_)) | with_reducible exact ti_)
  all_goals first
   | (refine qfp (i + 1) [] ⟨⟨by omega, ?_⟩, by omega⟩ rfl (by simp) ?_ ?_ ?_ <;> (try refine ev_ ?_) <;> (try with_reducible exact ti_) <;> (try simp (disch := omega) only [qo, and_true, true_and])
      rw [← ha,qjd (l:=l) (i:=i) (by omega)]
      simp_all [onW,qbr]
      try omega)
   | (rw [← ha,show i = l.length by omega,List.drop_length];rfl)
   | (rw [← ha, qjd (l := l) (i := i) (by omega)]
      simp_all [onW,qbr]
      try omega)

def wordsW:List (List UInt8):=[[100,97,116,97],[99,108,97,115,115],[105,110,115,116,97,110,99,101],[119,104,101,114,101],[108,101,116],[105,110],[99,97,115,101],[111,102],[105,102],[116,104,101,110],[101,108,115,101]]
def resW (l:List UInt8):Bool:=wordsW.contains l
theorem qu7:(wordsW.map AV.str).length = 11:=rfl
theorem qtg {i:Nat} (h:i < 11):(wordsW.map AV.str).getD i .junk = .str (wordsW.getD i []):=by
 have h':i < wordsW.length:=h
 rw [List.getD_eq_getElem?_getD,List.getElem?_map,List.getD_eq_getElem?_getD,List.getElem?_eq_getElem h'];rfl
theorem qku {i:Nat} (h:i < 11):wordsW.drop i = wordsW.getD i [] :: wordsW.drop (i + 1):=by
 have h':i < wordsW.length:=h
 rw [List.drop_eq_getElem_cons h',List.getD_eq_getElem?_getD,List.getElem?_eq_getElem h'];rfl
theorem qj2 (l:List UInt8):qm Try.prog 39 [.str l] (.bool (resW l)):=by
 refine qh c0cf (by simp) (by simp only [go_sem]) rfl fun hw=>?_
 repeat' (first | refine vs_ ?_ | ((first | refine vr_ ?_ | (refine cs_ ?_ ?_<;>intro hc) | refine cj_ ?_ | simp (disch:=omega) only [qd,qo])<;>(try refine ev_ ?_)) | with_reducible exact ti_)
 refine qfb (S:=Nat) (fun i=>i≤11∧(wordsW.drop i).contains l = resW l) (fun i=>(⟨[(0,.str l),(3,.bool false),(6,.agg (wordsW.map AV.str)),(7,.int .i64 i)],[]⟩,[])) (fun i=>11 - i) ?_ fun i hi=>?_
 ·refine qfp 0 [] ⟨Nat.zero_le _,rfl⟩ rfl (by simp) ?_ ?_ ?_<;>(try refine ev_ ?_)<;>(try with_reducible exact ti_)<;>(try simp (disch:=omega) only [qo,and_true,true_and])
  exact ⟨rfl,rfl⟩
 ·obtain ⟨hi,ha⟩:=hi
  repeat' (first | refine vs_ ?_ | ((first | refine vr_ ?_ | (refine cs_ ?_ ?_<;>intro hc) | refine cj_ ?_ | simp (disch:=omega) only [qd,qo])<;>(try refine ev_ ?_)) | with_reducible exact ti_)
  ·simp (disch:=omega) only [qu7,qtg,Nat.mul_one]
   refine ⟨by omega,?_⟩
   repeat' (first | refine vs_ ?_ | ((first | refine vr_ ?_ | (refine cs_ ?_ ?_<;>intro hc) | refine cj_ ?_ | simp (disch:=omega) only [qd,qo])<;>(try refine ev_ ?_)) | with_reducible exact ti_)
   ·refine qfp (i + 1) [] ⟨⟨by omega,?_⟩,by omega⟩ rfl (by simp) ?_ ?_ ?_<;>(try refine ev_ ?_)<;>(try with_reducible exact ti_)<;>(try simp (disch:=omega) only [qo,and_true,true_and])
    ·rw [← ha,qku (i:=i) (by omega),List.contains_cons]
     rw [show (l == wordsW.getD i []) = false by simpa using fun h=>hc h.symm];simp
    ·have:i < maxLen:=by unfold maxLen;omega
     rw [qo this]
     exact ⟨⟨rfl,rfl⟩,rfl⟩
   ·rw [← ha,qku (i:=i) (by omega),List.contains_cons,show (l == wordsW.getD i []) = true by simpa using hc.symm];rfl
  ·rw [← ha,show i = 11 by omega];rfl
def conW (l:List UInt8):Bool:=decide (l≠[]) && qkf (l.getD 0 0).toNat && onsW l
theorem qdo (l:List UInt8):qm Try.prog 21 [.str l] (.bool (conW l)):=by
 refine qh c0cg (by simp) (by simp only [go_sem]) rfl fun hw=>?_
 have hl:l.length≤maxLen:=hw.1
 repeat' (first | refine vs_ ?_ | ((first | refine vr_ ?_ | refine qa (qk8 _) fun _=>?_ | refine qa (qih _) fun _=>?_ | (refine cs_ ?_ ?_<;>intro hc) | refine cj_ ?_ | simp (disch:=omega) only [qd,qo])<;>(try refine ev_ ?_)) | with_reducible exact ti_)
 all_goals simp_all [conW]
theorem qth {l:List UInt8} (h:¬ l = []):onsW l = (onW (l.getD 0 0).toNat && onsW (l.drop 1)):=qjd (l:=l) (i:=0) (qvb h)
def varW (l:List UInt8):Bool:=decide (l≠[]) && decide (l≠[95]) && qnv (l.getD 0 0).toNat && onsW l && !resW l
theorem qe2 (l:List UInt8):qm Try.prog 20 [.str l] (.bool (varW l)):=by
 refine qh c0ch (by simp) (by simp only [go_sem]) rfl fun hw=>?_
 have hl:l.length≤maxLen:=hw.1
 repeat' (first | refine vs_ ?_ | ((first | refine vr_ ?_ | refine qa (qk8 _) fun _=>?_ | refine qa (qil _) fun _=>?_ | refine qa (qj2 _) fun _=>?_ | (refine cs_ ?_ ?_<;>intro hc) | refine cj_ ?_ | simp (disch:=omega) only [qd,qo])<;>(try refine ev_ ?_)) | with_reducible exact ti_)
 all_goals simp_all [varW]
end Go.Proofs.Ytlmcofjcpadmiaa
