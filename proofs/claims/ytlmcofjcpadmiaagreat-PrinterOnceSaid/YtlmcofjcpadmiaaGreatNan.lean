/- Texts of this proof, joined. -/
import Derived.Test.YtlmcofjcpadmiaaGreatNak
import Derived.Test.YtlmcofjcpadmiaaGreatNam
import Derived.Test.YtlmcofjcpadmiaaGreatNaj
set_option linter.unusedVariables false
set_option linter.unusedSimpArgs false

/- trees: count, Few, Size, Depth -/
set_option maxRecDepth 4000
namespace Go.Proofs.YtlmcofjcpadmiaaGreat
open Go Go.RowKit Go.V

/-! count, Few -/
mutual
def cntW:N->Int->Int
 | .mk _ _ _ _ ks,k=>qcgt (IntKind.i64.wrap (k - 1)) ks
def qcgt:Int->List N->Int
 | a,[]=>a
 | a,x :: r=>if 0≤a then qcgt (cntW x a) r else a
end
/-! the references -/
mutual
def q3c:N->Int
 | .mk _ _ _ _ ks=>qvy 1 ks
def qvy:Int->List N->Int
 | a,[]=>a
 | a,x :: r=>qvy (IntKind.i64.wrap (a + q3c x)) r
end
theorem qbhg (n:N):q3c n = qvy 1 n.kids:=by cases n;rw [q3c];rfl
mutual
def depR:N->Int
 | .mk _ _ _ _ ks=>IntKind.i64.wrap (qxk 0 ks + 1)
def qxk:Int->List N->Int
 | a,[]=>a
 | a,x :: r=>qxk (if depR x > a then depR x else a) r
end
theorem qba5 (n:N):depR n = IntKind.i64.wrap (qxk 0 n.kids + 1):=by cases n;rw [depR];rfl
set_option maxRecDepth 4000

structure Yld (α:Type) where
 m:Nat
 hs:α->List Ent
 i:Nat
 step:α->Int->N->α×Bool
 len:∀ s,(hs s).length = m
 bd:∀ s,(hs s).all (Ent.bd m) = true
 lt:i < m
 live:α->Prop
 keep:∀ s l n,live s->(step s l n).2 = true->live (step s l n).1
 app:∀ s l n,live s->VApp Tryz.prog (hs s) (.opq i) [.int .i64 l,enc n] (fun H' o=>H' = hs (step s l n).1∧o = .val (.bool (step s l n).2))

theorem qb1g {α:Type} (y:Yld α) (s:α):(y.hs s).length = y.m:=y.len s
theorem qcc2 {α:Type} (y:Yld α) (s:α):(y.hs s).all (Ent.bd y.m) = true:=y.bd s
theorem qbma {α:Type} (y:Yld α) (s:α) (L:List Ent):(y.hs s ++ L).take y.m = y.hs s:=by rw [← y.len s];simp
theorem qbxc {α:Type} (y:Yld α) (s:α):(y.hs s).all (Ent.bd (y.m + 1)) = true:=qbzg (by omega) (y.bd s)
theorem qbyf {α:Type} (y:Yld α):decide (y.i < y.m + 1) = true:=by have:=y.lt;simp;omega
attribute [go_sem] qb1g qcc2 qbma qbxc qbyf
section
variable {α:Type} (y:Yld α)
theorem qb4c {s:α} {l:Int} {n:N} {L:List Ent} {Q:List Ent->VO->Prop} (hlv:y.live s) (h:Q (y.hs (y.step s l n).1 ++ L) (.val (.bool (y.step s l n).2))):VApp Tryz.prog (y.hs s ++ L) (.opq y.i) [.int .i64 l,enc n] Q:=by
 refine qbmu (y.app s l n hlv) (by rw [y.len];exact y.bd s) (by rw [y.len];simpa [AV.bd] using y.lt) (by simp only [go_sem]) ?_
 rintro H1 o ⟨rfl,rfl⟩
 exact ⟨by rw [y.len,y.len],by rw [y.len];exact y.bd _,rfl,h⟩
theorem qbf9 {s s':α} {b:Bool} {l:Int} {n:N} {L:List Ent} {Q:List Ent->VO->Prop} (hc:VCalls Tryz.prog 141 (y.hs s) [enc n,.int .i64 l,.opq y.i] (fun H' o=>H' = y.hs s'∧o = .val (.bool b))) (h:Q (y.hs s' ++ L) (.val (.bool b))):VApp Tryz.prog (y.hs s ++ L) (.fn 141 [] []) [enc n,.int .i64 l,.opq y.i] Q:=by
 refine qb3 (first:=[]) (caps:=[]) ?_
 simp only [List.nil_append,List.append_nil]
 have:=y.lt
 refine qde hc (by rw [y.len];exact y.bd s) (by simp only [go_sem,this]) ?_
 rintro H1 o ⟨rfl,rfl⟩
 exact ⟨by rw [y.len,y.len],by rw [y.len];exact y.bd _,rfl,h⟩
mutual
def qeb (f:α->Int->N->α×Bool):N->Int->α->α×Bool
 | .mk k p n t ks,l,s=>if (f s l (.mk k p n t ks)).2 then qe3 f (IntKind.i64.wrap (l + 1)) ks (f s l (.mk k p n t ks)).1 else ((f s l (.mk k p n t ks)).1,false)
def qe3 (f:α->Int->N->α×Bool):Int->List N->α->α×Bool
 | l,[],s=>(s,true)
 | l,x :: r,s=>if (qeb f x l s).2 then qe3 f l r (qeb f x l s).1 else ((qeb f x l s).1,false)
end
theorem qji (f:α->Int->N->α×Bool) (n:N) (l:Int) (s:α):qeb f n l s = if (f s l n).2 then qe3 f (IntKind.i64.wrap (l + 1)) n.kids (f s l n).1 else ((f s l n).1,false):=by cases n;rw [qeb];rfl

theorem qu8 (l:Int):∀ (r:List N),(∀ x∈r,∀ l s,y.live s->(qeb y.step x l s).2 = true->y.live (qeb y.step x l s).1)->∀ s,y.live s->(qe3 y.step l r s).2 = true->y.live (qe3 y.step l r s).1
 | [],_,s,h,_=>h
 | x :: r, hx, s, h, h2 => by
   rw [qe3] at h2 ⊢
   split at h2
   ·rename_i h3
    rw [if_pos h3]
    exact qu8 l r (fun x hx'=>hx x (by simp [hx'])) _ (hx x (by simp) l s h h3) h2
   ·cases h2
theorem q9s:∀ n l s,y.live s->(qeb y.step n l s).2 = true->y.live (qeb y.step n l s).1:=by
 refine N.ind fun n ih l s h h2=>?_
 rw [qji] at h2 ⊢
 split at h2
 ·rename_i h3
  rw [if_pos h3]
  exact qu8 y _ n.kids ih _ (y.keep s l n h h3) h2
 ·cases h2

theorem qcdl:∀ n l s,y.live s->VCalls Tryz.prog 141 (y.hs s) [enc n,.int .i64 l,.opq y.i] (fun H' o=>H' = y.hs (qeb y.step n l s).1∧o = .val (.bool (qeb y.step n l s).2)):=by
 refine N.ind fun n ih l s hlv=>?_
 have hlen:=y.len
 have hlt:=y.lt
 refine qye (by kernel_rfl) fun hw=>?_
 have hkl:n.kids.length≤maxLen:=((qmg n).1 hw.1).1
 have hbd:∀ s,(y.hs s).all (Ent.bd (y.hs s).length) = true:=fun s=>by rw [y.len];exact y.bd s
 refine qq c0cb y.m (by rw [hlen];exact Nat.le_refl _) (by simp) ?_
 repeat' (first | refine vs_ ?_ | ((first | refine vr_ ?_ | refine qb4c y hlv ?_ | (refine cs_ ?_ ?_<;>intro hc) | refine cj_ ?_ | simp (disch:=omega) only [qc,qs])<;>(try refine ev_ ?_)) | with_reducible exact ti_)
 ·rw [qji,if_neg (by simpa using hc)]
  exact ⟨rfl,rfl⟩
 ·refine qcm (S:=Nat×α) (fun s'=>y.live s'.2∧s'.1≤n.kids.length∧qe3 y.step (IntKind.i64.wrap (l + 1)) (n.kids.drop s'.1) s'.2 = qeb y.step n l s) (fun s'=>(⟨[(1,.int .i64 l),(2,.opq y.i),(15,.sl 5 (encs n.kids)),(16,.int .i64 n.kids.length),(17,.int .i64 s'.1)],[]⟩,y.hs s'.2 ++ [.blk (enc n).cells])) (fun s=>n.kids.length - s.1) ?_ fun s' hs'=>?_
  ·refine q6w (0,(y.step s l n).1) [] ⟨y.keep s l n hlv (by simpa using hc),Nat.zero_le _,?_⟩ ?_ ?_ ?_ ?_ ?_ ?_<;>(try refine ev_ ?_)<;>(try with_reducible exact ti_)<;>(try simp (disch:=omega) only [qs,and_true,true_and])
   rw [qji,if_pos (by simpa using hc)]
  ·obtain ⟨i,a⟩:=s'
   obtain ⟨hla,hi,ha⟩:=hs'
   dsimp only at hi ha hla
   have hstep:i < n.kids.length->qeb y.step n l s = if (qeb y.step (n.kids.getD i N0) (IntKind.i64.wrap (l + 1)) a).2 then qe3 y.step (IntKind.i64.wrap (l + 1)) (n.kids.drop (i + 1)) (qeb y.step (n.kids.getD i N0) (IntKind.i64.wrap (l + 1)) a).1 else ((qeb y.step (n.kids.getD i N0) (IntKind.i64.wrap (l + 1)) a).1,false):=fun h=>by
    rw [← ha,q7w (l:=n.kids) (i:=i) h,qe3]
   repeat' (first | refine vs_ ?_ | ((first | refine vr_ ?_ | refine qbf9 y (ih _ (qi (by omega)) _ _ hla) ?_ | (refine cs_ ?_ ?_<;>intro hc) | refine cj_ ?_ | simp (disch:=omega) only [qc,qs])<;>(try refine ev_ ?_)) | with_reducible exact ti_)
   ·rw [hstep (by omega),if_neg (by simpa using hc)]
    exact ⟨rfl,rfl⟩
   ·refine q6w (i + 1,(qeb y.step (n.kids.getD i N0) (IntKind.i64.wrap (l + 1)) a).1) [.blk (enc (n.kids.getD i N0)).cells] ⟨⟨q9s y _ _ _ hla (by simpa using hc),by omega,?_⟩,by omega⟩ ?_ ?_ ?_ ?_ ?_ ?_<;>(try refine ev_ ?_)<;>(try with_reducible exact ti_)<;>(try simp (disch:=omega) only [qs,and_true,true_and])
    rw [hstep (by omega),if_pos (by simpa using hc)]
   ·rw [← ha,show i = n.kids.length by omega,List.drop_length]
    exact ⟨rfl,rfl⟩

theorem qbja {s s':α} {b:Bool} {l:Int} {n:N} {Q:List Ent->VO->Prop} (hc:VCalls Tryz.prog 141 (y.hs s) [enc n,.int .i64 l,.opq y.i] (fun H' o=>H' = y.hs s'∧o = .val (.bool b))) (h:Q (y.hs s') (.val (.bool b))):VApp Tryz.prog (y.hs s) (.fn 141 [] []) [enc n,.int .i64 l,.opq y.i] Q:=by
 have:=qbf9 y (L:=[]) (Q:=Q) hc (by simpa using h)
 simpa using this

theorem qci3 {n:N} {l:Int} {s:α} {p q:Nat} (hlv:y.live s) (hp:ent (y.hs s) p = .blk (nc n)) (hq:ent (y.hs s) q = .blk [.int .i64 l]):VCalls Tryz.prog 140 (y.hs s) [.opq y.i,.ptr p 0,.ptr q 0] (fun H' o=>H' = y.hs (qeb y.step n l s).1∧o = .val (.tup [])):=by
 refine qq c0cc y.m (by rw [y.len];exact Nat.le_refl _) (by simp) ?_
 have ht:∀ s,(y.hs s).take y.m = y.hs s:=fun s=>by rw [← y.len s];simp
 refine q1e ?_
 simp only [go_sem,hp,hq,↓reduceIte,Nat.reduceEqDiff,Nat.reduceAdd,Nat.reduceSub,Nat.reduceMul,Nat.reduceLT,Nat.reduceLeDiff,reduceCtorEq,Int.reduceToNat]
 refine qbja y (qcdl y _ _ _ hlv) ?_
 simp only [go_sem,ht,↓reduceIte,Nat.reduceEqDiff,Nat.reduceAdd,Nat.reduceSub,Nat.reduceMul,Nat.reduceLT,Nat.reduceLeDiff,reduceCtorEq,Int.reduceToNat]
end

theorem qce7 (n:N) (l:Int):VCalls Tryz.prog 88 [] [enc n,.int .i64 l] (fun H o=>H = [.blk (enc n).cells,.blk [.int .i64 l]]∧o = .val (.fn 140 [] [.ptr 0 0,.ptr 1 0])):=by
 refine qq c0cd 2 (by simp) (by simp) ?_
 repeat' (first | refine vs_ ?_ | ((first | refine vr_ ?_ | (refine cs_ ?_ ?_<;>intro hc) | refine cj_ ?_ | fail)<;>(try refine ev_ ?_)) | with_reducible exact ti_)

/-! Size -/
/-! Depth -/
def qbpw (n:N) (fn:FuncId) (asn bd:Code) (ha:qdf Tryz.prog 13 asn = some qbb8) (hb:qdf Tryz.prog 13 bd = some qbbz):Yld Int where
 m:=5
 hs:=fun k=>[.blk (nc n),.blk [.int .i64 k],.blk (nc n),.blk [.int .i64 1],.lp ⟨.ready,none,fn,[7,8].toArray,asn,bd⟩ (ql6 13 [(6,.fn 140 [] [.ptr 2 0,.ptr 3 0]),(5,enc n),(3,.ptr 1 0),(2,.int .i64 0),(1,.ptr 0 0),(0,enc n)])]
 i:=4
 step:=fun k l _=>(if l > k then l else k,true)
 len:=fun _=>rfl
 bd:=fun k=>by (refine ev_ ?_;(try with_reducible exact ti_))
 lt:=by omega
 live:=fun _=>True
 keep:=fun _ _ _ _ _=>trivial
 app:=fun k l x _=>by
  refine qv2 (k:=5) rfl rfl qru ha hb (by simp) (by simp) (by simp) fun lp=>?_
  repeat' (first | refine vs_ ?_ | ((first | refine vr_ ?_ | (refine cs_ ?_ ?_<;>intro hc) | refine cj_ ?_ | simp (disch:=omega) only [qc,qs])<;>(try refine ev_ ?_)) | with_reducible exact ti_)

theorem qbdp (n:N):qx Tryz.prog 56 [enc n] (.int .i64 (qeb (fun (k:Int) l _=>(if l > k then l else k,true)) n 1 0).1):=by
 refine qn c0ce (by simp) (by simp only [go_sem]) rfl fun hw=>?_
 repeat' (first | refine vs_ ?_ | ((first | refine vr_ ?_ | (refine cs_ ?_ ?_<;>intro hc) | refine cj_ ?_ | fail)<;>(try refine ev_ ?_)) | with_reducible exact ti_)
 refine qx1 (qce7 n 1) (by simp only [go_sem]) ?_
 rintro H1 o ⟨rfl,rfl⟩
 (refine ev_ ?_;(try with_reducible exact ti_))
 refine qwk (qbe5 rfl (Nat.zero_le _) fun fn asn bd ha hb=>?_)
 refine VCalls.mono (qci3 (qbpw n fn asn bd ha hb) (n:=n) (l:=1) (s:=0) (p:=2) (q:=3) trivial rfl rfl) ?_
 rintro H1 o ⟨rfl,rfl⟩
 simp only [qbpw,go_sem,↓reduceIte]
 repeat' (first | refine vs_ ?_ | ((first | refine vr_ ?_ | (refine cs_ ?_ ?_<;>intro hc) | refine cj_ ?_ | fail)<;>(try refine ev_ ?_)) | with_reducible exact ti_)
set_option maxRecDepth 4000

mutual
def qul:N->N->Bool
 | .mk k _ n t ks,.mk k' _ n' t' ks'=>decide (k = k') && decide (t = t') && decide (n = n') && qez ks ks'
def qez:List N->List N->Bool
 | [],[]=>true
 | x :: r,y :: r'=>qul x y && qez r r'
 | _,_=>false
end
theorem qf7 (a b:N):qul a b = (decide (a.kind = b.kind) && decide (a.text = b.text) && decide (a.num = b.num) && qez a.kids b.kids):=by cases a;cases b;rw [qul];rfl
theorem qob:∀ {l l':List N},l.length≠l'.length->qez l l' = false
 | [],[],h=>absurd rfl h
 | [],y :: r',_=>by rw [qez]<;>simp
 | x :: r,[],_=>by rw [qez]<;>simp
 | x :: r,y :: r',h=>by rw [qez,qob (l:=r) (l':=r') (by simpa using h)];simp
theorem qj5 {l l':List N} {i:Nat} (h:i < l.length) (h':i < l'.length):qez (l.drop i) (l'.drop i) = (qul (l.getD i N0) (l'.getD i N0) && qez (l.drop (i + 1)) (l'.drop (i + 1))):=by
 rw [q7w h,q7w h',qez]
theorem qvf {l l':List N} {i:Nat} (h:l.length≤i) (h':l'.length≤i):qez (l.drop i) (l'.drop i) = true:=by
 rw [List.drop_of_length_le h,List.drop_of_length_le h',qez]

theorem q4t {a b:N} {i:Nat} (h1:a.kind = b.kind) (h2:a.text = b.text) (h3:a.num = b.num) (ha:qez (a.kids.drop i) (b.kids.drop i) = qez a.kids b.kids):qul a b = qez (a.kids.drop i) (b.kids.drop i):=by
 rw [ha,qf7];simp [h1,h2,h3]

theorem qccq:∀ a b,qx Tryz.prog 23 [enc a,enc b] (.bool (qul a b)):=by
 refine N.ind fun a ih b=>?_
 refine qn c0bz (by simp) (by simp only [go_sem]) rfl fun hw=>?_
 have hkl:a.kids.length≤maxLen:=((qmg a).1 hw.1).1
 repeat' (first | refine vs_ ?_ | ((first | refine vr_ ?_ | (refine cs_ ?_ ?_<;>intro hc) | refine cj_ ?_ | simp (disch:=omega) only [qc,qs])<;>(try refine ev_ ?_)) | with_reducible exact ti_)
 ·rw [qf7];simp [*]
 ·rw [qf7];simp [*]
 ·rw [qf7];simp [*]
 ·rw [qf7,qob (by omega)];simp
 rename_i h1 h2 h3
 refine qcm (S:=Nat) (fun i=>i≤a.kids.length∧qez (a.kids.drop i) (b.kids.drop i) = qez a.kids b.kids) (fun i=>(⟨[(2,.ptr 0 0),(3,.ptr 1 0),(36,.int .i64 a.kids.length),(37,.int .i64 i)],[]⟩,[.blk (nc a),.blk (nc b)])) (fun i=>a.kids.length - i) ?_ fun i hi=>?_
 ·refine qb1 0 [0,1] ⟨Nat.zero_le _,rfl⟩ rfl (by simp) ?_ ?_ ?_<;>(try refine ev_ ?_)<;>(try with_reducible exact ti_)<;>(try simp (disch:=omega) only [qs,and_true,true_and])
 ·obtain ⟨hi,ha⟩:=hi
  have hf:=q4t h1 h2 h3 ha
  repeat' (first | refine vs_ ?_ | ((first | refine vr_ ?_ | refine qa (ih _ (qi (by omega)) _) fun _=>?_ | refine qj (ih _ (qi (by omega)) _) ?_ | (refine cs_ ?_ ?_<;>intro hc) | refine cj_ ?_ | simp (disch:=omega) only [qc,qs])<;>(try refine ev_ ?_)) | with_reducible exact ti_)
  ·rw [hf,qj5 (by omega) (by omega),hc];rfl
  ·refine qb1 (i + 1) [0,1] ⟨⟨by omega,?_⟩,by omega⟩ rfl (by simp) ?_ ?_ ?_<;>(try refine ev_ ?_)<;>(try with_reducible exact ti_)<;>(try simp (disch:=omega) only [qs,and_true,true_and])
   rw [← ha,qj5 (l:=a.kids) (l':=b.kids) (i:=i) (by omega) (by omega),hc,Bool.true_and]
  ·rw [hf,qvf (by omega) (by omega)]

theorem q87:∀ a b,qx Tryz.prog 29 [enc a,enc b] (.bool (qul a b)):=by
 refine N.ind fun a ih b=>?_
 refine qn c0ca (by simp) (by simp only [go_sem]) rfl fun hw=>?_
 have hkl:a.kids.length≤maxLen:=((qmg a).1 hw.1).1
 repeat' (first | refine vs_ ?_ | ((first | refine vr_ ?_ | (refine cs_ ?_ ?_<;>intro hc) | refine cj_ ?_ | simp (disch:=omega) only [qc,qs])<;>(try refine ev_ ?_)) | with_reducible exact ti_)
 ·rw [qf7];simp [*]
 ·rw [qf7];simp [*]
 ·rw [qf7];simp [*]
 ·rw [qf7,qob (by omega)];simp
 rename_i h1 h2 h3
 refine qcm (S:=Nat) (fun i=>i≤a.kids.length∧qez (a.kids.drop i) (b.kids.drop i) = qez a.kids b.kids) (fun i=>(⟨[(2,.ptr 0 0),(3,.ptr 1 0),(5,.int .i64 i)],[]⟩,[.blk (nc a),.blk (nc b)])) (fun i=>a.kids.length - i) ?_ fun i hi=>?_
 ·refine qb1 0 [0,1] ⟨Nat.zero_le _,rfl⟩ rfl (by simp) ?_ ?_ ?_<;>(try refine ev_ ?_)<;>(try with_reducible exact ti_)<;>(try simp (disch:=omega) only [qs,and_true,true_and])
 ·obtain ⟨hi,ha⟩:=hi
  have hf:=q4t h1 h2 h3 ha
  repeat' (first | refine vs_ ?_ | ((first | refine vr_ ?_ | refine qa (ih _ (qi (by omega)) _) fun _=>?_ | refine qj (ih _ (qi (by omega)) _) ?_ | (refine cs_ ?_ ?_<;>intro hc) | refine cj_ ?_ | simp (disch:=omega) only [qc,qs])<;>(try refine ev_ ?_)) | with_reducible exact ti_)
  ·rw [hf,qj5 (by omega) (by omega),hc];rfl
  ·refine qb1 (i + 1) [0,1] ⟨⟨by omega,?_⟩,by omega⟩ rfl (by simp) ?_ ?_ ?_<;>(try refine ev_ ?_)<;>(try with_reducible exact ti_)<;>(try simp (disch:=omega) only [qs,and_true,true_and])
   rw [← ha,qj5 (l:=a.kids) (l':=b.kids) (i:=i) (by omega) (by omega),hc,Bool.true_and]
  ·rw [hf,qvf (by omega) (by omega)]

/-! Strip -/
mutual
def qk:N->N
 | .mk k _ n t ks=>.mk k 0 n t (qms ks)
def qms:List N->List N
 | []=>[]
 | x :: r=>qk x :: qms r
end
theorem qeq (n:N):qk n = .mk n.kind 0 n.num n.text (qms n.kids):=by cases n;rw [qk];rfl
theorem qf1 (l:List N):qms l = l.map qk:=by
 induction l with
 | nil=>rfl
 | cons x r ih=>rw [qms,ih];rfl

theorem qb2i {l:List N} {i:Nat} (h:i < l.length):l.take (i + 1) = l.take i ++ [l.getD i N0]:=by
 rw [List.take_add_one,List.getD_eq_getElem?_getD,List.getElem?_eq_getElem h];rfl
theorem ql (l:List N) (x:N):encs l ++ [enc x] = encs (l ++ [x]):=by rw [qfr,qfr];simp
set_option maxRecDepth 4000

def qtl (c:Int):Bool:=decide (97≤c) && decide (c≤122) || decide (c = 95)
def qpb (c:Int):Bool:=decide (65≤c) && decide (c≤90)
def qb8 (c:Int):Bool:=decide (48≤c) && decide (c≤57)

theorem qq6 (c:Int):qx Tryz.prog 142 [.int .u8 c] (.bool (qtl c)):=by
 refine qn c0cf (by simp) (by simp only [go_sem]) rfl fun hw=>?_
 repeat' (first | refine vs_ ?_ | ((first | refine vr_ ?_ | (refine cs_ ?_ ?_<;>intro hc) | refine cj_ ?_ | fail)<;>(try refine ev_ ?_)) | with_reducible exact ti_)
 all_goals simp [qtl, *]
theorem qua (c:Int):qx Tryz.prog 145 [.int .u8 c] (.bool (qpb c)):=by
 refine qn c0cg (by simp) (by simp only [go_sem]) rfl fun hw=>?_
 repeat' (first | refine vs_ ?_ | ((first | refine vr_ ?_ | (refine cs_ ?_ ?_<;>intro hc) | refine cj_ ?_ | fail)<;>(try refine ev_ ?_)) | with_reducible exact ti_)
 all_goals simp [qpb, *]
def onW (c:Int):Bool:=qtl c || qpb c || qb8 c || decide (c = 39)
def onsW (l:List UInt8):Bool:=l.all fun c=>onW c.toNat
theorem qnw {l:List UInt8} {i:Nat} (h:i < l.length):l.drop i = l.getD i 0 :: l.drop (i + 1):=by
 rw [List.drop_eq_getElem_cons h,List.getD_eq_getElem?_getD,List.getElem?_eq_getElem h];rfl
theorem qrg {l:List UInt8} {i:Nat} (h:i < l.length):onsW (l.drop i) = (onW (l.getD i 0).toNat && onsW (l.drop (i + 1))):=by
 rw [qnw h];rfl
theorem qvj (l:List UInt8):qx Tryz.prog 143 [.str l] (.bool (onsW l)):=by
 refine qn c0ch (by simp) (by simp only [go_sem]) rfl fun hw=>?_
 have hl:l.length≤maxLen:=hw.1
 repeat' (first | refine vs_ ?_ | ((first | refine vr_ ?_ | (refine cs_ ?_ ?_<;>intro hc) | refine cj_ ?_ | simp (disch:=omega) only [qc,qs])<;>(try refine ev_ ?_)) | with_reducible exact ti_)
 refine qcm (S:=Nat) (fun i=>i≤l.length∧onsW (l.drop i) = onsW l) (fun i=>(⟨[(0,.str l),(6,.int .i64 l.length),(7,.int .i64 i)],[]⟩,[])) (fun i=>l.length - i) ?_ fun i hi=>?_
 ·refine qb1 0 [] ⟨Nat.zero_le _,rfl⟩ rfl (by simp) ?_ ?_ ?_<;>(try refine ev_ ?_)<;>(try with_reducible exact ti_)<;>(try simp (disch:=omega) only [qs,and_true,true_and])
 ·obtain ⟨hi,ha⟩:=hi
  repeat' (first | refine vs_ ?_ | ((first | refine vr_ ?_ | refine qa (qq6 _) fun _=>?_ | refine qa (qua _) fun _=>?_ | (refine cs_ ?_ ?_<;>intro hc) | refine cj_ ?_ | simp (disch:=omega) only [qc,qs])<;>(try refine ev_ ?_)) | with_reducible exact ti_)
  all_goals first
   | (refine qb1 (i + 1) [] ⟨⟨by omega, ?_⟩, by omega⟩ rfl (by simp) ?_ ?_ ?_ <;> (try refine ev_ ?_) <;> (try with_reducible exact ti_) <;> (try simp (disch := omega) only [qs, and_true, true_and])
      rw [← ha,qrg (l:=l) (i:=i) (by omega)]
      simp_all [onW,qb8]
      try omega)
   | (rw [← ha,show i = l.length by omega,List.drop_length];rfl)
   | (rw [← ha, qrg (l := l) (i := i) (by omega)]
      simp_all [onW,qb8]
      try omega)

def wordsW:List (List UInt8):=[[100,97,116,97],[99,108,97,115,115],[105,110,115,116,97,110,99,101],[119,104,101,114,101],[108,101,116],[105,110],[99,97,115,101],[111,102],[105,102],[116,104,101,110],[101,108,115,101]]
def resW (l:List UInt8):Bool:=wordsW.contains l
theorem qbem:(wordsW.map AV.str).length = 11:=rfl
theorem qbbe {i:Nat} (h:i < 11):(wordsW.map AV.str).getD i .junk = .str (wordsW.getD i []):=by
 have h':i < wordsW.length:=h
 rw [List.getD_eq_getElem?_getD,List.getElem?_map,List.getD_eq_getElem?_getD,List.getElem?_eq_getElem h'];rfl
theorem quy {i:Nat} (h:i < 11):wordsW.drop i = wordsW.getD i [] :: wordsW.drop (i + 1):=by
 have h':i < wordsW.length:=h
 rw [List.drop_eq_getElem_cons h',List.getD_eq_getElem?_getD,List.getElem?_eq_getElem h'];rfl
theorem qmh (l:List UInt8):qx Tryz.prog 144 [.str l] (.bool (resW l)):=by
 refine qn c0ci (by simp) (by simp only [go_sem]) rfl fun hw=>?_
 repeat' (first | refine vs_ ?_ | ((first | refine vr_ ?_ | (refine cs_ ?_ ?_<;>intro hc) | refine cj_ ?_ | simp (disch:=omega) only [qc,qs])<;>(try refine ev_ ?_)) | with_reducible exact ti_)
 refine qcm (S:=Nat) (fun i=>i≤11∧(wordsW.drop i).contains l = resW l) (fun i=>(⟨[(0,.str l),(3,.bool false),(6,.agg (wordsW.map AV.str)),(7,.int .i64 i)],[]⟩,[])) (fun i=>11 - i) ?_ fun i hi=>?_
 ·refine qb1 0 [] ⟨Nat.zero_le _,rfl⟩ rfl (by simp) ?_ ?_ ?_<;>(try refine ev_ ?_)<;>(try with_reducible exact ti_)<;>(try simp (disch:=omega) only [qs,and_true,true_and])
  exact ⟨rfl,rfl⟩
 ·obtain ⟨hi,ha⟩:=hi
  repeat' (first | refine vs_ ?_ | ((first | refine vr_ ?_ | (refine cs_ ?_ ?_<;>intro hc) | refine cj_ ?_ | simp (disch:=omega) only [qc,qs])<;>(try refine ev_ ?_)) | with_reducible exact ti_)
  ·simp (disch:=omega) only [qbem,qbbe,Nat.mul_one]
   refine ⟨by omega,?_⟩
   repeat' (first | refine vs_ ?_ | ((first | refine vr_ ?_ | (refine cs_ ?_ ?_<;>intro hc) | refine cj_ ?_ | simp (disch:=omega) only [qc,qs])<;>(try refine ev_ ?_)) | with_reducible exact ti_)
   ·refine qb1 (i + 1) [] ⟨⟨by omega,?_⟩,by omega⟩ rfl (by simp) ?_ ?_ ?_<;>(try refine ev_ ?_)<;>(try with_reducible exact ti_)<;>(try simp (disch:=omega) only [qs,and_true,true_and])
    ·rw [← ha,quy (i:=i) (by omega),List.contains_cons]
     rw [show (l == wordsW.getD i []) = false by simpa using fun h=>hc h.symm];simp
    ·have:i < maxLen:=by unfold maxLen;omega
     rw [qs this]
     exact ⟨⟨rfl,rfl⟩,rfl⟩
   ·rw [← ha,quy (i:=i) (by omega),List.contains_cons,show (l == wordsW.getD i []) = true by simpa using hc.symm];rfl
  ·rw [← ha,show i = 11 by omega];rfl
def conW (l:List UInt8):Bool:=decide (l≠[]) && qpb (l.getD 0 0).toNat && onsW l
theorem qgn (l:List UInt8):qx Tryz.prog 91 [.str l] (.bool (conW l)):=by
 refine qn c0cj (by simp) (by simp only [go_sem]) rfl fun hw=>?_
 have hl:l.length≤maxLen:=hw.1
 repeat' (first | refine vs_ ?_ | ((first | refine vr_ ?_ | refine qa (qvj _) fun _=>?_ | refine qa (qua _) fun _=>?_ | (refine cs_ ?_ ?_<;>intro hc) | refine cj_ ?_ | simp (disch:=omega) only [qc,qs])<;>(try refine ev_ ?_)) | with_reducible exact ti_)
 all_goals simp_all [conW]
theorem qbdm {l:List UInt8} (h:¬ l = []):onsW l = (onW (l.getD 0 0).toNat && onsW (l.drop 1)):=qrg (l:=l) (i:=0) (qr0 h)
def varW (l:List UInt8):Bool:=decide (l≠[]) && decide (l≠[95]) && qtl (l.getD 0 0).toNat && onsW l && !resW l
theorem qk4 (l:List UInt8):qx Tryz.prog 90 [.str l] (.bool (varW l)):=by
 refine qn c0ck (by simp) (by simp only [go_sem]) rfl fun hw=>?_
 have hl:l.length≤maxLen:=hw.1
 repeat' (first | refine vs_ ?_ | ((first | refine vr_ ?_ | refine qa (qvj _) fun _=>?_ | refine qa (qq6 _) fun _=>?_ | refine qa (qmh _) fun _=>?_ | (refine cs_ ?_ ?_<;>intro hc) | refine cj_ ?_ | simp (disch:=omega) only [qc,qs])<;>(try refine ev_ ?_)) | with_reducible exact ti_)
 all_goals simp_all [varW]
end Go.Proofs.YtlmcofjcpadmiaaGreat
