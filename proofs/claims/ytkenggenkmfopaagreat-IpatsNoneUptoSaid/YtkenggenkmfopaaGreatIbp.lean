/- Texts of this proof, joined. -/
import Derived.Test.YtkenggenkmfopaaGreatIbk
import Derived.Test.YtkenggenkmfopaaGreatIam
import Derived.Test.YtkenggenkmfopaaGreatIan
set_option linter.unusedVariables false
set_option linter.unusedSimpArgs false

/- trees: count, Few, Size, Depth -/
set_option maxRecDepth 4000
namespace Go.Proofs.YtkenggenkmfopaaGreat
open Go Go.RowKit Go.V

/-! count, Few -/
mutual
def cntW:N->Int->Int
 | .mk _ _ _ _ ks,k=>qww (IntKind.i64.wrap (k-1)) ks
def qww:Int->List N->Int
 | a,[]=>a
 | a,x::r=>if 0≤a then qww (cntW x a) r else a
end
theorem qb7c(n:N)(k:Int):cntW n k=qww (IntKind.i64.wrap (k-1)) n.kids:=by cases n;rw[cntW];rfl
theorem q7f{a:Int}(h:a<0)(l:List N):qww a l=a:=by
 cases l with
 | nil=>rfl
 | cons x r=>rw[qww,if_neg (by omega)]
theorem qbog:∀n k,qp Tryz.prog 60 [enc n,.int .i64 k] (.int .i64 (cntW n k)):=by
 refine N.ind fun n ih k=>?_
 refine qe c0eq (by simp) (by simp only[go_sem]) rfl fun hw=>?_
 have hkl:n.kids.length≤maxLen:=((qbl1 n).1 hw.1).1
 repeat'(first|refine vs_ ?_|((first|refine vr_ ?_|(refine cs_ ?_ ?_<;>intro hc)|refine cj_ ?_|simp (disch:=omega) only[qa,qc])<;>try refine ev_ ?_)|with_reducible exact ti_)
 refine qo (S:=Nat×Int) (fun s=>s.1≤n.kids.length∧qww s.2 (n.kids.drop s.1)=cntW n k) (fun s=>(⟨[(1,.int .i64 s.2),(2,.ptr 0 0),(5,.int .i64 s.1)],[]⟩,[.blk (enc n).cells])) (fun s=>n.kids.length-s.1) ?_ fun s hs=>?_
 ·refine qj (0,IntKind.i64.wrap (k-1)) [0] ⟨Nat.zero_le _,(qb7c n k).symm⟩ rfl (by simp) ?_ ?_ ?_<;>(refine ev_ ?_;(try with_reducible exact ti_))
 ·obtain⟨i,a⟩:=s
  obtain⟨hi,ha⟩:=hs
  dsimp only at hi ha
  repeat'(first|refine vs_ ?_|((first|refine vr_ ?_|refine qb (ih _ (qj1 (by omega)) _) fun _=>?_|(refine cs_ ?_ ?_<;>intro hc)|refine cj_ ?_|simp (disch:=omega) only[qa,qc])<;>try refine ev_ ?_)|with_reducible exact ti_)
  ·refine qj (i+1,cntW (n.kids.getD i N0) a) [0] ⟨⟨by omega,?_⟩,by omega⟩ rfl (by simp) ?_ ?_ ?_<;>(try refine ev_ ?_)<;>(try with_reducible exact ti_)<;>(try simp (disch:=omega) only[qc,and_true,true_and])
   rw[←ha,qbbr (l:=n.kids) (i:=i) (by omega),qww,if_pos (by assumption)]
  ·rw[←ha,q7f (by omega)]
  ·rw[←ha,show i=n.kids.length by omega,List.drop_length];rfl

def fewW(n:N):Bool:=decide (0≤cntW n 3000)
theorem few7(n:N):qp Tryz.prog 32 [enc n] (.int .i64 (if fewW n then 1 else 0)):=by
 refine qe c0er (by simp) (by simp only[go_sem]) rfl fun hw=>?_
 repeat'(first|refine vs_ ?_|((first|refine vr_ ?_|refine qb (qbog _ _) fun _=>?_|(refine cs_ ?_ ?_<;>intro hc)|refine cj_ ?_)<;>try refine ev_ ?_)|with_reducible exact ti_)
 ·rw[if_neg (by simp[fewW];omega)]
 ·rw[if_pos (by simp[fewW];omega)]

/-! the references -/
mutual
def qxa:N->Int
 | .mk _ _ _ _ ks=>qqc 1 ks
def qqc:Int->List N->Int
 | a,[]=>a
 | a,x::r=>qqc (IntKind.i64.wrap (a+qxa x)) r
end
theorem qbj3(n:N):qxa n=qqc 1 n.kids:=by cases n;rw[qxa];rfl
mutual
def depR:N->Int
 | .mk _ _ _ _ ks=>IntKind.i64.wrap (q38 0 ks+1)
def q38:Int->List N->Int
 | a,[]=>a
 | a,x::r=>q38 (if depR x > a then depR x else a) r
end
theorem qb3h(n:N):depR n=IntKind.i64.wrap (q38 0 n.kids+1):=by cases n;rw[depR];rfl
set_option maxRecDepth 4000

structure Yld(α:Type) where
 m:Nat
 hs:α->List Ent
 i:Nat
 step:α->Int->N->α×Bool
 len:∀s,(hs s).length=m
 bd:∀s,(hs s).all (Ent.bd m)=true
 lt:i<m
 live:α->Prop
 keep:∀s l n,live s->(step s l n).2=true->live (step s l n).1
 app:∀s l n,live s->VApp Tryz.prog (hs s) (.opq i) [.int .i64 l,enc n] (fun H' o=>H'=hs (step s l n).1∧o=.val (.bool (step s l n).2))

theorem qb0v{α:Type}(y:Yld α)(s:α):(y.hs s).length=y.m:=y.len s
theorem qcjx{α:Type}(y:Yld α)(s:α):(y.hs s).all (Ent.bd y.m)=true:=y.bd s
theorem qbj6{α:Type}(y:Yld α)(s:α)(L:List Ent):(y.hs s++L).take y.m=y.hs s:=by rw[←y.len s];simp
theorem qbrj{α:Type}(y:Yld α)(s:α):(y.hs s).all (Ent.bd (y.m+1))=true:=qb2c (by omega) (y.bd s)
theorem qbpk{α:Type}(y:Yld α):decide (y.i<y.m+1)=true:=by have:=y.lt;simp;omega
attribute [go_sem] qb0v qcjx qbj6 qbrj qbpk
section
variable {α:Type} (y:Yld α)
theorem qbq4{s:α}{l:Int}{n:N}{L:List Ent}{Q:List Ent->VO->Prop}(hlv:y.live s)(h:Q (y.hs (y.step s l n).1++L) (.val (.bool (y.step s l n).2))):VApp Tryz.prog (y.hs s++L) (.opq y.i) [.int .i64 l,enc n] Q:=by
 refine qbio (y.app s l n hlv) (by rw[y.len];exact y.bd s) (by rw[y.len];simpa [AV.bd] using y.lt) (by simp only[go_sem]) ?_
 rintro H1 o ⟨rfl,rfl⟩
 exact⟨by rw[y.len,y.len],by rw[y.len];exact y.bd _,rfl,h⟩
theorem q7z{s s':α}{b:Bool}{l:Int}{n:N}{L:List Ent}{Q:List Ent->VO->Prop}(hc:VCalls Tryz.prog 193 (y.hs s) [enc n,.int .i64 l,.opq y.i] (fun H' o=>H'=y.hs s'∧o=.val (.bool b)))(h:Q (y.hs s'++L) (.val (.bool b))):VApp Tryz.prog (y.hs s++L) (.fn 193 [] []) [enc n,.int .i64 l,.opq y.i] Q:=by
 refine qb1 (first:=[]) (caps:=[]) ?_
 simp only[List.nil_append,List.append_nil]
 have:=y.lt
 refine qqa hc (by rw[y.len];exact y.bd s) (by simp only[go_sem,this]) ?_
 rintro H1 o ⟨rfl,rfl⟩
 exact⟨by rw[y.len,y.len],by rw[y.len];exact y.bd _,rfl,h⟩
mutual
def qbt(f:α->Int->N->α×Bool):N->Int->α->α×Bool
 | .mk k p n t ks,l,s=>if(f s l (.mk k p n t ks)).2 then qct f (IntKind.i64.wrap (l+1)) ks (f s l (.mk k p n t ks)).1 else((f s l (.mk k p n t ks)).1,false)
def qct(f:α->Int->N->α×Bool):Int->List N->α->α×Bool
 | l,[],s=>(s,true)
 | l,x::r,s=>if(qbt f x l s).2 then qct f l r (qbt f x l s).1 else((qbt f x l s).1,false)
end
theorem qfs(f:α->Int->N->α×Bool)(n:N)(l:Int)(s:α):qbt f n l s=if(f s l n).2 then qct f (IntKind.i64.wrap (l+1)) n.kids (f s l n).1 else((f s l n).1,false):=by cases n;rw[qbt];rfl

theorem qpu(l:Int):∀(r:List N),(∀x∈r,∀l s,y.live s->(qbt y.step x l s).2=true->y.live (qbt y.step x l s).1)->∀s,y.live s->(qct y.step l r s).2=true->y.live (qct y.step l r s).1
 | [],_,s,h,_=>h
 | x :: r, hx, s, h, h2 => by
   rw[qct] at h2 ⊢
   split at h2
   ·rename_i h3
    rw[if_pos h3]
    exact qpu l r (fun x hx'=>hx x (by simp[hx'])) _ (hx x (by simp) l s h h3) h2
   ·cases h2
theorem q85:∀n l s,y.live s->(qbt y.step n l s).2=true->y.live (qbt y.step n l s).1:=by
 refine N.ind fun n ih l s h h2=>?_
 rw[qfs] at h2 ⊢
 split at h2
 ·rename_i h3
  rw[if_pos h3]
  exact qpu y _ n.kids ih _ (y.keep s l n h h3) h2
 ·cases h2

theorem qcef:∀n l s,y.live s->VCalls Tryz.prog 193 (y.hs s) [enc n,.int .i64 l,.opq y.i] (fun H' o=>H'=y.hs (qbt y.step n l s).1∧o=.val (.bool (qbt y.step n l s).2)):=by
 refine N.ind fun n ih l s hlv=>?_
 have hlen:=y.len
 have hlt:=y.lt
 refine qfq (by kernel_rfl) fun hw=>?_
 have hkl:n.kids.length≤maxLen:=((qbl1 n).1 hw.1).1
 have hbd:∀s,(y.hs s).all (Ent.bd (y.hs s).length)=true:=fun s=>by rw[y.len];exact y.bd s
 refine qd c0em y.m (by rw[hlen];exact Nat.le_refl _) (by simp) ?_
 repeat'(first|refine vs_ ?_|((first|refine vr_ ?_|refine qbq4 y hlv ?_|(refine cs_ ?_ ?_<;>intro hc)|refine cj_ ?_|simp (disch:=omega) only[qa,qc])<;>try refine ev_ ?_)|with_reducible exact ti_)
 ·rw[qfs,if_neg (by simpa using hc)]
  exact⟨rfl,rfl⟩
 ·refine qo (S:=Nat×α) (fun s'=>y.live s'.2∧s'.1≤n.kids.length∧qct y.step (IntKind.i64.wrap (l+1)) (n.kids.drop s'.1) s'.2=qbt y.step n l s) (fun s'=>(⟨[(1,.int .i64 l),(2,.opq y.i),(15,.sl 5 (encs n.kids)),(16,.int .i64 n.kids.length),(17,.int .i64 s'.1)],[]⟩,y.hs s'.2++[.blk (enc n).cells])) (fun s=>n.kids.length-s.1) ?_ fun s' hs'=>?_
  ·refine qlj (0,(y.step s l n).1) [] ⟨y.keep s l n hlv (by simpa using hc),Nat.zero_le _,?_⟩ ?_ ?_ ?_ ?_ ?_ ?_<;>(try refine ev_ ?_)<;>(try with_reducible exact ti_)<;>(try simp (disch:=omega) only[qc,and_true,true_and])
   rw[qfs,if_pos (by simpa using hc)]
  ·obtain⟨i,a⟩:=s'
   obtain⟨hla,hi,ha⟩:=hs'
   dsimp only at hi ha hla
   have hstep:i<n.kids.length->qbt y.step n l s=if(qbt y.step (n.kids.getD i N0) (IntKind.i64.wrap (l+1)) a).2 then qct y.step (IntKind.i64.wrap (l+1)) (n.kids.drop (i+1)) (qbt y.step (n.kids.getD i N0) (IntKind.i64.wrap (l+1)) a).1 else((qbt y.step (n.kids.getD i N0) (IntKind.i64.wrap (l+1)) a).1,false):=fun h=>by
    rw[←ha,qbbr (l:=n.kids) (i:=i) h,qct]
   repeat'(first|refine vs_ ?_|((first|refine vr_ ?_|refine q7z y (ih _ (qj1 (by omega)) _ _ hla) ?_|(refine cs_ ?_ ?_<;>intro hc)|refine cj_ ?_|simp (disch:=omega) only[qa,qc])<;>try refine ev_ ?_)|with_reducible exact ti_)
   ·rw[hstep (by omega),if_neg (by simpa using hc)]
    exact⟨rfl,rfl⟩
   ·refine qlj (i+1,(qbt y.step (n.kids.getD i N0) (IntKind.i64.wrap (l+1)) a).1) [.blk (enc (n.kids.getD i N0)).cells] ⟨⟨q85 y _ _ _ hla (by simpa using hc),by omega,?_⟩,by omega⟩ ?_ ?_ ?_ ?_ ?_ ?_<;>(try refine ev_ ?_)<;>(try with_reducible exact ti_)<;>(try simp (disch:=omega) only[qc,and_true,true_and])
    rw[hstep (by omega),if_pos (by simpa using hc)]
   ·rw[←ha,show i=n.kids.length by omega,List.drop_length]
    exact⟨rfl,rfl⟩

theorem qbip{s s':α}{b:Bool}{l:Int}{n:N}{Q:List Ent->VO->Prop}(hc:VCalls Tryz.prog 193 (y.hs s) [enc n,.int .i64 l,.opq y.i] (fun H' o=>H'=y.hs s'∧o=.val (.bool b)))(h:Q (y.hs s') (.val (.bool b))):VApp Tryz.prog (y.hs s) (.fn 193 [] []) [enc n,.int .i64 l,.opq y.i] Q:=by
 have:=q7z y (L:=[]) (Q:=Q) hc (by simpa using h)
 simpa using this

theorem qcfv{n:N}{l:Int}{s:α}{p q:Nat}(hlv:y.live s)(hp:ent (y.hs s) p=.blk (nc n))(hq:ent (y.hs s) q=.blk [.int .i64 l]):VCalls Tryz.prog 192 (y.hs s) [.opq y.i,.ptr p 0,.ptr q 0] (fun H' o=>H'=y.hs (qbt y.step n l s).1∧o=.val (.tup [])):=by
 refine qd c0en y.m (by rw[y.len];exact Nat.le_refl _) (by simp) ?_
 have ht:∀s,(y.hs s).take y.m=y.hs s:=fun s=>by rw[←y.len s];simp
 refine qil ?_
 simp only[go_sem,hp,hq,↓reduceIte,Nat.reduceEqDiff,Nat.reduceAdd,Nat.reduceSub,Nat.reduceMul,Nat.reduceLT,Nat.reduceLeDiff,reduceCtorEq,Int.reduceToNat]
 refine qbip y (qcef y _ _ _ hlv) ?_
 simp only[go_sem,ht,↓reduceIte,Nat.reduceEqDiff,Nat.reduceAdd,Nat.reduceSub,Nat.reduceMul,Nat.reduceLT,Nat.reduceLeDiff,reduceCtorEq,Int.reduceToNat]
end

theorem qcky(n:N)(l:Int):VCalls Tryz.prog 140 [] [enc n,.int .i64 l] (fun H o=>H=[.blk (enc n).cells,.blk [.int .i64 l]]∧o=.val (.fn 192 [] [.ptr 0 0,.ptr 1 0])):=by
 refine qd c0eo 2 (by simp) (by simp) ?_
 repeat'(first|refine vs_ ?_|((first|refine vr_ ?_|(refine cs_ ?_ ?_<;>intro hc)|refine cj_ ?_)<;>try refine ev_ ?_)|with_reducible exact ti_)

/-! Size -/
/-! Depth -/
def qble(n:N)(fn:FuncId)(asn bd:Code)(ha:qb0 Tryz.prog 13 asn=some q99)(hb:qb0 Tryz.prog 13 bd=some q60):Yld Int where
 m:=5
 hs:=fun k=>[.blk (nc n),.blk [.int .i64 k],.blk (nc n),.blk [.int .i64 1],.lp ⟨.ready,none,fn,[7,8].toArray,asn,bd⟩ (qg7 13 [(6,.fn 192 [] [.ptr 2 0,.ptr 3 0]),(5,enc n),(3,.ptr 1 0),(2,.int .i64 0),(1,.ptr 0 0),(0,enc n)])]
 i:=4
 step:=fun k l _=>(if l > k then l else k,true)
 len:=fun _=>rfl
 bd:=fun k=>by(refine ev_ ?_;(try with_reducible exact ti_))
 lt:=by omega
 live:=fun _=>True
 keep:=fun _ _ _ _ _=>trivial
 app:=fun k l x _=>by
  refine qkv (k:=5) rfl rfl qjr ha hb (by simp) (by simp) (by simp) fun lp=>?_
  repeat'(first|refine vs_ ?_|((first|refine vr_ ?_|(refine cs_ ?_ ?_<;>intro hc)|refine cj_ ?_|simp (disch:=omega) only[qa,qc])<;>try refine ev_ ?_)|with_reducible exact ti_)

theorem qbaa(n:N):qp Tryz.prog 93 [enc n] (.int .i64 (qbt (fun(k:Int) l _=>(if l > k then l else k,true)) n 1 0).1):=by
 refine qe c0ep (by simp) (by simp only[go_sem]) rfl fun hw=>?_
 repeat'(first|refine vs_ ?_|((first|refine vr_ ?_|(refine cs_ ?_ ?_<;>intro hc)|refine cj_ ?_)<;>try refine ev_ ?_)|with_reducible exact ti_)
 refine qjz (qcky n 1) (by simp only[go_sem]) ?_
 rintro H1 o ⟨rfl,rfl⟩
 (refine ev_ ?_;(try with_reducible exact ti_))
 refine qq5 (q0d rfl (Nat.zero_le _) fun fn asn bd ha hb=>?_)
 refine VCalls.mono (qcfv (qble n fn asn bd ha hb) (n:=n) (l:=1) (s:=0) (p:=2) (q:=3) trivial rfl rfl) ?_
 rintro H1 o ⟨rfl,rfl⟩
 simp only[qble,go_sem,↓reduceIte]
 repeat'(first|refine vs_ ?_|((first|refine vr_ ?_|(refine cs_ ?_ ?_<;>intro hc)|refine cj_ ?_)<;>try refine ev_ ?_)|with_reducible exact ti_)

/-! Strip -/
theorem qbsn{l:List N}{i:Nat}(h:i<l.length):l.take (i+1)=l.take i++[l.getD i N0]:=by
 rw[List.take_add_one,List.getD_eq_getElem?_getD,List.getElem?_eq_getElem h];rfl
theorem qji(l:List N)(x:N):encs l++[enc x]=encs (l++[x]):=by rw[qdd,qdd];simp
set_option maxRecDepth 4000

theorem q51(l:List N)(i:Nat):(encs l).take i=encs (l.take i):=by rw[qdd,qdd,List.map_take]
theorem qbci(l:List N)(i:Nat):(encs l).drop i=encs (l.drop i):=by rw[qdd,qdd,List.map_drop]
attribute [go_sem] q51 qbci
def qbtu(n:N):Bool:=decide (n.text=[])&&decide (n.num=0)
theorem q21(n:N):qp Tryz.prog 147 [enc n] (.bool (qbtu n)):=by
 refine qe c0ei (by simp) (by simp only[go_sem]) rfl fun hw=>?_
 repeat'(first|refine vs_ ?_|((first|refine vr_ ?_|(refine cs_ ?_ ?_<;>intro hc)|refine cj_ ?_)<;>try refine ev_ ?_)|with_reducible exact ti_)
 all_goals simp_all[qbtu]
def q8m(n:N)(f:List UInt8->Bool):Bool:=decide (n.num=0)&&f n.text
theorem qn1{so:FuncId}{f:List UInt8->Bool}(h:∀l,qp Tryz.prog so [.str l] (.bool (f l)))(n:N):qp Tryz.prog 145 [enc n,.fn so [] []] (.bool (q8m n f)):=by
 refine qe c0ej (by simp) (by simp only[go_sem]) rfl fun hw=>?_
 repeat'(first|refine vs_ ?_|((first|refine vr_ ?_|refine qb (h _) fun _=>?_|(refine cs_ ?_ ?_<;>intro hc)|refine cj_ ?_)<;>try refine ev_ ?_)|with_reducible exact ti_)
 all_goals simp_all[q8m]
theorem quk{l:List N}{f:N->Bool}{i:Nat}(h:i<l.length):(l.drop i).all f=(f (l.getD i N0)&&(l.drop (i+1)).all f):=by
 rw[qbbr h,List.all_cons]

theorem q3i{so:FuncId}{f:N->Bool}{l:List N}(h:∀x∈l,qp Tryz.prog so [enc x] (.bool (f x))):qp Tryz.prog 149 [.sl 5 (encs l),.fn so [] []] (.bool (l.all f)):=by
 refine qe c0ek (by simp) (by simp only[go_sem]) rfl fun hw=>?_
 have hkl:l.length≤maxLen:=by have:=hw.1.1;rwa [qd7] at this
 repeat'(first|refine vs_ ?_|((first|refine vr_ ?_|(refine cs_ ?_ ?_<;>intro hc)|refine cj_ ?_|simp (disch:=omega) only[qa,qc])<;>try refine ev_ ?_)|with_reducible exact ti_)
 refine qo (S:=Nat) (fun i=>i≤l.length∧(l.drop i).all f=l.all f) (fun i=>(⟨[(1,.fn so [] []),(7,.sl 5 (encs l)),(8,.int .i64 l.length),(9,.int .i64 i)],[]⟩,[])) (fun i=>l.length-i) ?_ fun i hi=>?_
 ·refine qj 0 [] ⟨Nat.zero_le _,rfl⟩ rfl (by simp) ?_ ?_ ?_<;>(try refine ev_ ?_)<;>(try with_reducible exact ti_)<;>(try simp (disch:=omega) only[qc,and_true,true_and])
 ·obtain⟨hi,ha⟩:=hi
  repeat'(first|refine vs_ ?_|((first|refine vr_ ?_|refine qb (h _ (qj1 (by omega))) fun _=>?_|(refine cs_ ?_ ?_<;>intro hc)|refine cj_ ?_|simp (disch:=omega) only[qa,qc])<;>try refine ev_ ?_)|with_reducible exact ti_)
  ·rw[←ha,quk (by omega),hc];rfl
  ·refine qj (i+1) [] ⟨⟨by omega,?_⟩,by omega⟩ rfl (by simp) ?_ ?_ ?_<;>(try refine ev_ ?_)<;>(try with_reducible exact ti_)<;>(try simp (disch:=omega) only[qc,and_true,true_and])
   rw[←ha,quk (l:=l) (i:=i) (by omega),hc,Bool.true_and]
  ·rw[←ha,List.drop_of_length_le (by omega)];rfl

/-! low -/
def yLow(n:N)(fn:FuncId)(asn bd:Code)(ha:qb0 Tryz.prog 10 asn=some qbav)(hb:qb0 Tryz.prog 10 bd=some q72):Yld Bool where
 m:=5
 hs:=fun b=>[.blk (nc n),.blk [.bool false],.blk (nc n),.blk [.int .i64 1],.lp (if b then ⟨.done,some .ret,fn,[6,7].toArray,asn,bd⟩ else ⟨.ready,none,fn,[6,7].toArray,asn,bd⟩) (qg7 10 [(5,.fn 192 [] [.ptr 2 0,.ptr 3 0]),(4,enc n),(2,.ptr 1 0),(1,.ptr 0 0),(0,enc n)])]
 i:=4
 step:=fun k l _=>(decide (100<l),!decide (100<l))
 len:=fun _=>rfl
 bd:=fun k=>by cases k<;>(refine ev_ ?_;(try with_reducible exact ti_))
 lt:=by omega
 live:=fun b=>b=false
 keep:=fun s l n _ h=>by simpa using h
 app:=fun k l x hk=>by
  subst hk
  refine qkv (k:=5) rfl rfl qjr ha hb (by simp) (by simp) (by simp) fun lp=>?_
  repeat'(first|refine vs_ ?_|((first|refine vr_ ?_|(refine cs_ ?_ ?_<;>intro hc)|refine cj_ ?_|simp (disch:=omega) only[qa,qc])<;>try refine ev_ ?_)|with_reducible exact ti_)

def lowF:Bool->Int->N->Bool×Bool:=fun _ l _=>(decide (100<l),!decide (100<l))
def lowW(n:N):Bool:=(qbt lowF n 1 false).2
theorem qbw7:∀n l s,(qbt lowF n l s).1=!(qbt lowF n l s).2:=by
 refine N.ind fun n ih l s=>?_
 rw[qfs]
 split
 ·rename_i h
  have key:∀(r:List N),(∀x∈r,∀l s,(qbt lowF x l s).1=!(qbt lowF x l s).2)->∀(l:Int) (s:Bool),s=false->(qct lowF l r s).1=!(qct lowF l r s).2:=by
   intro r
   induction r with
   | nil=>intro _ l s hs;subst hs;rfl
   | cons x r ihr =>
     intro hx l s hs
     rw[qct]
     split
     ·rename_i h3
      exact ihr (fun x hx'=>hx x (by simp[hx'])) l _ (by rw[hx x (by simp),h3];rfl)
     ·rename_i h3
      simp only[Bool.not_eq_true] at h3
      rw[hx x (by simp),h3]
  exact key _ ih _ _ (by simpa [lowF] using h)
 ·rename_i h
  simpa [lowF] using h

theorem q5h(n:N):qp Tryz.prog 96 [enc n] (.bool (lowW n)):=by
 refine qe c0el (by simp) (by simp only[go_sem]) rfl fun hw=>?_
 repeat'(first|refine vs_ ?_|((first|refine vr_ ?_|(refine cs_ ?_ ?_<;>intro hc)|refine cj_ ?_)<;>try refine ev_ ?_)|with_reducible exact ti_)
 refine qjz (qcky n 1) (by simp only[go_sem]) ?_
 rintro H1 o ⟨rfl,rfl⟩
 (refine ev_ ?_;(try with_reducible exact ti_))
 refine qq5 (q0d rfl (Nat.zero_le _) fun fn asn bd ha hb=>?_)
 refine VCalls.mono (qcfv (yLow n fn asn bd ha hb) (n:=n) (l:=1) (s:=false) (p:=2) (q:=3) rfl rfl rfl) ?_
 rintro H1 o ⟨rfl,rfl⟩
 have hlow:=qbw7 n 1 false
 rw[show qbt (yLow n fn asn bd ha hb).step n 1 false=qbt lowF n 1 false from rfl,lowW]
 generalize qbt lowF n 1 false=pq at hlow ⊢
 obtain⟨p,q⟩:=pq
 simp only at hlow
 subst hlow
 cases q
 ·simp only[yLow,Bool.not_false,go_sem,↓reduceIte]
 ·simp only[yLow,Bool.not_true,go_sem,↓reduceIte]
  repeat'(first|refine vs_ ?_|((first|refine vr_ ?_|(refine cs_ ?_ ?_<;>intro hc)|refine cj_ ?_)<;>try refine ev_ ?_)|with_reducible exact ti_)
set_option maxRecDepth 4000

mutual
def tyW:N->Bool
 | .mk k _ n t ks => if k = 1 then decide (n = 0) && varW t && decide ((ks.length : Int) = 0)
   else if k=2∧n=0 then(if t=[45,62] then decide ((ks.length:Int)=2) else conW t)&&tysW ks else false
def tysW:List N->Bool
 | []=>true
 | x::r=>tyW x&&tysW r
end
/-! patterns -/
mutual
def paW:N->Bool
 | .mk k _ n t ks => if k = 11 then decide (n = 0) && varW t && decide ((ks.length : Int) = 0)
   else if k=12 then decide (t=[])&&decide (n=0)&&decide ((ks.length:Int)=0)
   else if k=13 then decide (t=[])&&decide (0≤n)&&decide ((ks.length:Int)=0)
   else if k=14 then decide (n=0)&&conW t&&pasW ks else false
def pasW:List N->Bool
 | []=>true
 | x::r=>paW x&&pasW r
end
theorem qbe9(l:List N):pasW l=l.all paW:=by
 induction l with
 | nil=>rfl
 | cons x r ih=>rw[pasW,ih];rfl
theorem qcc7(n:N):paW n=if n.kind=11 then decide (n.num=0)&&varW n.text&&decide ((n.kids.length:Int)=0)
 else if n.kind=12 then decide (n.text=[])&&decide (n.num=0)&&decide ((n.kids.length:Int)=0)
 else if n.kind=13 then decide (n.text=[])&&decide (0≤n.num)&&decide ((n.kids.length:Int)=0)
 else if n.kind=14 then decide (n.num=0)&&conW n.text&&n.kids.all paW else false:=by
 rw[←qbe9];cases n;rw[paW];rfl
theorem qwj:∀n,qp Tryz.prog 97 [enc n] (.bool (paW n)):=by
 refine N.ind fun n ih=>?_
 refine qe c0eh (by simp) (by simp only[go_sem]) rfl fun hw=>?_
 rw[qcc7]
 repeat'(first|refine vs_ ?_|((first|refine vr_ ?_|refine qb (qn1 q46 _) fun _=>?_|refine qb (qn1 qhs _) fun _=>?_|refine qb (q3i ih) fun _=>?_|refine qb (q21 _) fun _=>?_|(refine cs_ ?_ ?_<;>intro hc)|refine cj_ ?_)<;>try refine ev_ ?_)|with_reducible exact ti_)
 all_goals simp_all[q8m,qbtu]
/-! predicates, contexts, signatures -/

abbrev T3:=Bool×Bool×Bool
def d3:T3×N:=((false,false,false),N0)


set_option maxRecDepth 4000

theorem qmt(n:N):qp Tryz.prog 64 [enc n] (.bool (lowW n&&paW n)):=by
 refine qe c0eg (by simp) (by simp only[go_sem]) rfl fun hw=>?_
 repeat'(first|refine vs_ ?_|((first|refine vr_ ?_|refine qb (q5h _) fun _=>?_|refine qb (qwj _) fun _=>?_|(refine cs_ ?_ ?_<;>intro hc)|refine cj_ ?_)<;>try refine ev_ ?_)|with_reducible exact ti_)
 all_goals first | (simp only[*,decide_true,decide_false,Bool.and_true,Bool.true_and,Bool.and_false,Bool.false_and,Bool.or_true,Bool.true_or,Bool.or_false,Bool.false_or,Bool.not_true,Bool.not_false,if_true,if_false,reduceIte,Int.reduceEq];done) | (simp_all[];done) | (simp_all[];omega)

mutual
def sz:N->Nat
 | .mk _ _ _ _ ks=>szs ks+1
def szs:List N->Nat
 | []=>0
 | x::r=>sz x+szs r
end
mutual
def dp:N->Nat
 | .mk _ _ _ _ ks=>dps ks+1
def dps:List N->Nat
 | []=>0
 | x::r=>max (dp x) (dps r)
end
theorem qiz(n:N):sz n=szs n.kids+1:=by cases n;rw[sz];rfl
theorem qbkw(n:N):dp n=dps n.kids+1:=by cases n;rw[dp];rfl
theorem qcib(n:N):1≤sz n:=by rw[qiz];omega
theorem qyi:∀l:List N,l.length≤szs l
 | []=>Nat.le_refl _
 | x::r=>by have:=qyi r;have:=qcib x;simp only[szs,List.length_cons];omega
theorem qwz:∀{l:List N} {x:N},x∈l->sz x≤szs l
 | y :: r, x, h => by
   simp only[szs]
   rcases List.mem_cons.1 h with rfl | h
   ·omega
   ·have:=qwz h;omega
theorem qyf:∀{l:List N},(∀x∈l,dp x≤sz x)->dps l≤szs l
 | [],_=>Nat.le_refl _
 | x :: r, h => by
   have h1:=h x (by simp)
   have h2:=qyf (l:=r) fun y hy=>h y (by simp[hy])
   simp only[dps,szs];omega
theorem qcl0:∀n,dp n≤sz n:=N.ind fun n ih=>by rw[qbkw,qiz];have:=qyf ih;omega

theorem qqz{z:Int}(h0:-1≤z)(h1:z≤1000000000):IntKind.i64.wrap z=z:=by
 simp[IntKind.wrap,IntKind.signed,IntKind.bits]
 omega

theorem qbg3:∀n,sz n≤1000000->qxa n=sz n:=N.ind fun n ih h=>by
 rw[qbj3,qiz]
 rw[qiz] at h
 have key:∀(l:List N),(∀x∈l,sz x≤1000000->qxa x=sz x)->∀a:Int,1≤a->a+szs l≤1000001->qqc a l=a+szs l:=by
  intro l
  induction l with
  | nil=>intro _ a h0 h1;simp[qqc,szs]
  | cons x r ihr =>
    intro hx a h0 h1
    simp only[qqc,szs] at h1 ⊢
    rw[hx x (by simp) (by omega),qqz (by omega) (by omega),ihr (fun y hy=>hx y (by simp[hy])) _ (by omega) (by omega)]
    omega
 rw[key n.kids ih 1 (by omega) (by omega)]
 omega
def szF:Int->Int->N->Int×Bool:=fun k _ _=>(IntKind.i64.wrap (k+1),true)
theorem qb75:∀n l (s:Int),0≤s->s+sz n≤2000000->qbt szF n l s=(s+sz n,true):=N.ind fun n ih l s h0 h1=>by
 rw[qfs,qiz]
 rw[qiz] at h1
 simp only[szF,if_true]
 have key:∀(r:List N),(∀x∈r,∀l (s:Int),0≤s->s+sz x≤2000000->qbt szF x l s=(s+sz x,true))->∀l (s:Int),0≤s->s+szs r≤2000000->qct szF l r s=(s+szs r,true):=by
  intro r
  induction r with
  | nil=>intro _ l s _ _;simp[qct,szs]
  | cons x r ihr =>
    intro hx l s h0 h1
    simp only[qct,szs] at h1 ⊢
    rw[hx x (by simp) _ _ h0 (by omega),if_pos rfl,ihr (fun y hy=>hx y (by simp[hy])) _ _ (by omega) (by omega)]
    simp only[Prod.mk.injEq,and_true];omega
 have:=key n.kids ih (IntKind.i64.wrap (l+1)) (IntKind.i64.wrap (s+1)) (by rw[qqz (by omega) (by omega)];omega) (by rw[qqz (by omega) (by omega)];omega)
 rw[this,qqz (by omega) (by omega)]
 simp only[Prod.mk.injEq,and_true];omega
theorem qck1{n:N}(h:sz n≤3000):(qbt (fun(k:Int) _ _=>(IntKind.i64.wrap (k+1),true)) n 1 0).1=qxa n:=by
 show(qbt szF n 1 0).1=qxa n
 rw[qb75 n 1 0 (by omega) (by omega),qbg3 n (by omega)];simp

theorem qb7m:∀n,sz n≤1000000->depR n=dp n:=N.ind fun n ih h=>by
 rw[qb3h,qbkw]
 rw[qiz] at h
 have key:∀(l:List N),(∀x∈l,sz x≤1000000->depR x=dp x)->szs l≤1000000->∀a:Int,0≤a->q38 a l=max a (dps l):=by
  intro l
  induction l with
  | nil=>intro _ _ a h0;simp[q38,dps];omega
  | cons x r ihr =>
    intro hx hs a h0
    simp only[szs] at hs
    simp only[q38,dps]
    rw[hx x (by simp) (by omega)]
    have:=ihr (fun y hy=>hx y (by simp[hy])) (by omega)
    split
    ·rw[this _ (by omega)];omega
    ·rw[this _ (by omega)];omega
 have hd:=qyf (l:=n.kids) fun x _=>qcl0 x
 rw[key n.kids ih (by omega) 0 (by omega),qqz (by omega) (by omega)]
 omega
def dpF:Int->Int->N->Int×Bool:=fun k l _=>(if l > k then l else k,true)
theorem qbyn:∀n (l s:Int),0≤l->l+sz n≤2000000->qbt dpF n l s=(max s (l+dp n-1),true):=N.ind fun n ih l s h0 h1=>by
 rw[qfs,qbkw]
 rw[qiz] at h1
 simp only[dpF,if_true]
 have key:∀(r:List N),(∀x∈r,∀(l s:Int),0≤l->l+sz x≤2000000->qbt dpF x l s=(max s (l+dp x-1),true))->∀(l s:Int),0≤l->l+szs r≤2000000->l-1≤s->qct dpF l r s=(max s (l+dps r-1),true):=by
  intro r
  induction r with
  | nil=>intro _ l s _ _ h;simp only[qct,dps,Prod.mk.injEq,and_true];omega
  | cons x r ihr =>
    intro hx l s h0 h1 h2
    simp only[szs] at h1
    simp only[qct,dps]
    rw[hx x (by simp) _ _ h0 (by omega),if_pos rfl,ihr (fun y hy=>hx y (by simp[hy])) _ _ (by omega) (by omega) (by omega)]
    simp only[Prod.mk.injEq,and_true];omega
 have:=key n.kids ih (IntKind.i64.wrap (l+1)) (if l > s then l else s) (by rw[qqz (by omega) (by omega)];omega) (by rw[qqz (by omega) (by omega)];omega) (by rw[qqz (by omega) (by omega)];split<;>omega)
 rw[this,qqz (by omega) (by omega)]
 simp only[Prod.mk.injEq,and_true]
 split<;>omega
end Go.Proofs.YtkenggenkmfopaaGreat
