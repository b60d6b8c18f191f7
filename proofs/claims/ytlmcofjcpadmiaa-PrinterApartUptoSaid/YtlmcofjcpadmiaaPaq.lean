/- Texts of this proof, joined. -/
import Derived.Test.YtlmcofjcpadmiaaPao
import Derived.Test.YtlmcofjcpadmiaaPap
import Derived.Lib.Join
set_option linter.unusedVariables false
set_option linter.unusedSimpArgs false

/- texts of numbers -/
set_option maxRecDepth 4000
namespace Go.Proofs.Ytlmcofjcpadmiaa
open Go Go.RowKit Go.V

theorem qbaa {z:Int} (h0:0≤z) (h1:z≤255):IntKind.u8.wrap z = z:=by
 unfold IntKind.wrap IntKind.signed IntKind.bits
 simp only [Bool.false_and,Bool.false_eq_true,if_false]
 omega
theorem qo0 {z:Int} (h0:0≤z) (h1:z < 18446744073709551616):IntKind.u64.wrap z = z:=by
 unfold IntKind.wrap IntKind.signed IntKind.bits
 simp only [Bool.false_and,Bool.false_eq_true,if_false]
 omega
theorem qys {z:Int} (h0:z < 0) (h1:-9223372036854775808≤z):IntKind.u64.wrap z = z + 18446744073709551616:=by
 unfold IntKind.wrap IntKind.signed IntKind.bits
 simp only [Bool.false_and,Bool.false_eq_true,if_false]
 omega
theorem qwj {n:Int} (h:(Lit.int .i64 n).wf = true):-9223372036854775808≤n∧n≤9223372036854775807:=by
 simpa [Lit.wf,IntKind.min,IntKind.max,IntKind.signed,IntKind.bits] using h
theorem qty {u:Nat} (h:9 < u) (s:List UInt8):digN (u / 10) ++ (UInt8.ofNat (48 + u % 10) :: s) = digN u ++ s:=by
 rw [qid (u:=u) (by omega)];simp
theorem q02 {u:Nat} (h:u < 18446744073709551616):(digN u).length≤20:=qqu 19 u (by omega)
theorem qbf1 (u:Nat):(u:Int).tmod 10 = ((u % 10:Nat):Int):=by rw [Int.tmod_eq_emod_of_nonneg (by omega)];omega
theorem q9s (u:Nat):(u:Int).tdiv 10 = ((u / 10:Nat):Int):=by rw [Int.tdiv_eq_ediv_of_nonneg (by omega)];omega
theorem qw1 {u:Nat}:IntKind.u8.wrap (IntKind.u64.wrap (48 + ((u % 10:Nat):Int))) = ((48 + u % 10:Nat):Int):=by
 rw [qo0 (by omega) (by omega),qbaa (by omega) (by omega)];omega
theorem q2q (u:Nat) (h:u < 18446744073709551616):IntKind.u64.wrap ((u / 10:Nat):Int) = ((u / 10:Nat):Int):=qo0 (by omega) (by omega)
attribute [go_sem] qet qim Int.toNat_natCast
/-! the program's: an array of 20 bytes, filled from behind -/
def e8 (c:UInt8):AV:=.int .u8 c.toNat
def qc2 (s:List UInt8):List AV:=List.replicate (20 - s.length) (.int .u8 0) ++ s.map e8
theorem qkn {s:List UInt8} (h:s.length≤20):(qc2 s).length = 20:=by simp [qc2];omega
theorem qrt {s:List UInt8} {c:UInt8} (h:s.length < 20):(qc2 s).set (19 - s.length) (.int .u8 c.toNat) = qc2 (c :: s):=by
 obtain ⟨k,hk⟩:∃ k,20 - s.length = k + 1:=⟨19 - s.length,by omega⟩
 have h1:19 - s.length = k:=by omega
 have h2:20 - (c :: s).length = k:=by simp;omega
 rw [qc2,qc2,hk,h1,h2,List.replicate_succ',List.append_assoc,List.set_append_right _ _ (by simp)]
 simp [e8]
theorem qwh {s:List UInt8} (h:s.length≤20):tk (20 - s.length) (20 - (20 - s.length)) (qc2 s) = s.map e8:=by
 rw [tk,qc2,List.drop_append,List.drop_of_length_le (by simp)]
 simp only [List.length_replicate,Nat.sub_self,List.drop_zero,List.nil_append]
 rw [List.take_of_length_le (by simp;omega)]
theorem qxr (s:List UInt8):(s.map e8).all qet = true:=by simp [e8,qet]
theorem q7x (s:List UInt8):(s.map e8).map qim = s:=by
 rw [List.map_map]
 refine (List.map_congr_left fun c _=>?_).trans (List.map_id s)
 simp [e8,qim]
theorem qk5 {k:Nat} {s:List UInt8}:AV.bds k (qc2 s) = true:=by
 rw [qc2,qkg];simp [e8,AV.bd]
theorem qrz {σ:Nat->Nat} {s:List UInt8}:AV.rens σ (qc2 s) = qc2 s:=qw (m:=0) (fun i hi=>by omega) _ qk5
attribute [go_sem] qk5 qrz
theorem qbce {k:Nat} (h:k < 20):IntKind.i64.wrap (((20 - k:Nat):Int) - 1) = ((19 - k:Nat):Int):=by
 have h1:((20 - k:Nat):Int) - 1 = ((19 - k:Nat):Int):=by omega
 rw [h1]
 exact qmf (by omega) (by unfold maxLen;omega)
theorem q5e {n:Int} (hn:-9223372036854775808≤n∧n≤9223372036854775807):(n < 0->IntKind.u64.wrap (0 - IntKind.u64.wrap n) = n.natAbs)∧(¬ n < 0->IntKind.u64.wrap n = n.natAbs):=by
 refine ⟨fun h=>?_,fun h=>?_⟩
 ·rw [qys (by omega) hn.1,show (0:Int) - (n + 18446744073709551616) = (-n) - 18446744073709551616 by omega]
  have:IntKind.u64.wrap (-n - 18446744073709551616) = -n:=by
   unfold IntKind.wrap IntKind.signed IntKind.bits
   simp only [Bool.false_and,Bool.false_eq_true,if_false]
   omega
  rw [this];omega
 ·rw [qo0 (by omega) (by omega)];omega
def e8s (s:List UInt8):List AV:=s.map e8
theorem qte (s:List UInt8):(e8s s).all qet = true:=qxr s
theorem qye (s:List UInt8):(e8s s).map qim = s:=q7x s
theorem qpq {s:List UInt8} {u:Nat} (h:s.length < 20):(qc2 s).set (19 - s.length) (.int .u8 ((48 + u % 10:Nat):Int)) = qc2 (UInt8.ofNat (48 + u % 10) :: s):=by
 rw [← qrt h]
 congr 2
 rw [UInt8.toNat_ofNat'];omega
theorem qos {s:List UInt8} {c:UInt8} (h:s.length < 20):List.take (20 - (19 - s.length)) (List.drop (19 - s.length) (qc2 (c :: s))) = e8s (c :: s):=by
 have h1:19 - s.length = 20 - (c :: s).length:=by rw [List.length_cons];omega
 rw [h1]
 exact qwh (s:=c :: s) (by simp;omega)
theorem q0i {H:List Ent} {n i off len cap:Nat}:co H (.sl n) (.vw i off len cap) = .vw i off len cap:=Eq.trans rfl rfl
attribute [go_sem] q0i
theorem qgj (n:Int):qm Try.prog 54 [.int .i64 n] (.str (digI n)):=by
 refine qh c0ci (by simp) (by simp only [go_sem]) rfl fun hw=>?_
 have hn:=qwj hw.1
 have ha:n.natAbs < 18446744073709551616:=by omega
 obtain ⟨hn1,hn2⟩:=q5e hn
 unfold k0ci
 refine qqv (qp2 ?_)
 (refine ev_ ?_;(try with_reducible exact ti_))
 refine qqv (qp2 ?_)
 (refine ev_ ?_;(try with_reducible exact ti_))
 refine q69 (S:=Unit) (fun _=>True) (fun _=>(⟨[(0,.int .i64 n),(3,.int .u64 n.natAbs)],[]⟩,[])) ?_ fun _ _=>?_
 ·repeat' (first | refine vs_ ?_ | ((first | refine vr_ ?_ | (refine cs_ ?_ ?_<;>intro hc) | refine cj_ ?_ | simp (disch:=omega) only [qd,qo])<;>(try refine ev_ ?_)) | with_reducible exact ti_)
  ·refine qfp () [] trivial rfl (by simp) ?_ ?_ ?_<;>(try rw [hn1 (by assumption)])<;>(try refine ev_ ?_)<;>(try with_reducible exact ti_)<;>(try simp (disch:=omega) only [qo,and_true,true_and])
  ·refine qfp () [] trivial rfl (by simp) ?_ ?_ ?_<;>(try rw [hn2 (by assumption)])<;>(try refine ev_ ?_)<;>(try with_reducible exact ti_)<;>(try simp (disch:=omega) only [qo,and_true,true_and])
 ·repeat' (first | refine vs_ ?_ | ((first | refine vr_ ?_ | (refine cs_ ?_ ?_<;>intro hc) | refine cj_ ?_ | simp (disch:=omega) only [qd,qo])<;>(try refine ev_ ?_)) | with_reducible exact ti_)
  refine qfb (S:=Nat×List UInt8) (fun x=>digN x.1 ++ x.2 = digN n.natAbs∧x.1 < 18446744073709551616) (fun x=>(⟨[(0,.int .i64 n),(3,.int .u64 x.1),(4,.ptr 0 0),(5,.int .i64 ((20 - x.2.length:Nat):Int))],[]⟩,[.blk (qc2 x.2)])) (fun x=>x.1) ?_ fun x hx=>?_
  ·refine qfp (n.natAbs,[]) [0] ⟨by simp,ha⟩ rfl (by simp) ?_ ?_ ?_<;>(try refine ev_ ?_)<;>(try with_reducible exact ti_)<;>(try simp (disch:=omega) only [qo,and_true,true_and])
   all_goals rfl
  ·obtain ⟨u,s⟩:=x
   obtain ⟨h1,h2⟩:=hx
   dsimp only at h1 h2
   have hl:s.length < 20:=by
    have:=congrArg List.length h1
    rw [List.length_append] at this
    have:=q02 ha
    have:=qxp u
    omega
   have h3:=qkn (Nat.le_of_lt hl)
   have h4:=qkn (s:=UInt8.ofNat (48 + u % 10) :: s) (by simp;omega)
   have h5:=qte (UInt8.ofNat (48 + u % 10) :: s)
   have h6:=qye (UInt8.ofNat (48 + u % 10) :: s)
   have hm:20 - (19 - s.length)≤maxLen:=by unfold maxLen;omega
   have hm2:1 + (s.length + 1)≤maxLen:=by unfold maxLen;omega
   repeat' (first | refine vs_ ?_ | ((first | refine vr_ ?_ | fail)<;>(try simp only [qbf1,q9s,qw1,q2q u h2,qbce hl,qpq hl,qos hl,h3,h4,h5,h6,Nat.zero_add,Nat.mul_one,go_sem,↓reduceIte])) | ((first | (refine cs_ ?_ ?_<;>intro hc) | refine cj_ ?_ | simp (disch:=omega) only [qd,qo])<;>(try refine ev_ ?_)) | with_reducible exact ti_)
   ·rw [digI,if_pos (by assumption),← h1,qf3 (u:=u) (by omega),show u % 10 = u by omega];rfl
   ·rw [digI,if_neg (by assumption),← h1,qf3 (u:=u) (by omega),show u % 10 = u by omega];rfl
   ·refine qfp (u / 10,UInt8.ofNat (48 + u % 10) :: s) [0] ⟨⟨by rw [qty (by omega)];exact h1,by dsimp only;omega⟩,by dsimp only;omega⟩ rfl (by simp) ?_ ?_ ?_<;>(try refine ev_ ?_)<;>(try with_reducible exact ti_)<;>(try simp (disch:=omega) only [qo,and_true,true_and])
    all_goals (rw [show 20 - (s.length + 1) = 19 - s.length by omega])
/-! letters -/
theorem qp4 {n:Int} (h:(Lit.int .i64 n).wf = true):(digI n).length≤21:=by
 have hn:=qwj h
 have:=q02 (u:=n.natAbs) (by omega)
 rw [digI]
 split
 ·rw [List.length_cons];omega
 ·omega
theorem qzo {n:Nat}:digI (n:Int) = digN n:=by rw [digI,if_neg (by omega)];rfl
theorem qv4 {z:Int} (h0:-9223372036854775808≤z) (h1:z≤9223372036854775807):IntKind.i64.wrap z = z:=by
 simp [IntKind.wrap,IntKind.signed,IntKind.bits]
 omega

def arW:List UInt8:=[45,62]
def qn (n:N):Bool:=decide (n.kids = [])
def cloW (b:Bool) (s:List UInt8):List UInt8:=if b = true then s else 40 :: (s ++ [41])
mutual
def ptT:N->List UInt8
 | .mk k _ _ t l => if k ≠ 1 ∧ t = arW then cloW (!decide ((l.getD 0 N0).text = arW)) ((ptTs l).getD 0 []) ++ ([32, 45, 62, 32] ++ (ptTs l).getD 1 [])
   else t ++ (((ptTs l).zip l).map fun p=>32 :: cloW (qn p.2) p.1).flatten
def ptTs:List N->List (List UInt8)
 | []=>[]
 | x :: r=>ptT x :: ptTs r
end
def atT (n:N):List UInt8:=32 :: cloW (qn n) (ptT n)
theorem qw9 (l:List N):ptTs l = l.map ptT:=by
 induction l with
 | nil=>rfl
 | cons x r ih=>rw [ptTs,ih];rfl
theorem qej {α β:Type} (f:α->β) (l:List α):(l.map f).zip l = l.map fun x=>(f x,x):=by
 induction l with
 | nil=>rfl
 | cons x r ih=>rw [List.map_cons,List.zip_cons_cons,ih];rfl
theorem qjn {α:Type} (f:N->α) (d:α) (h:f N0 = d) (l:List N) (i:Nat):(l.map f).getD i d = f (l.getD i N0):=by
 rw [List.getD_eq_getElem?_getD,List.getElem?_map,List.getD_eq_getElem?_getD]
 cases l[i]? with
 | none=>exact h.symm
 | some x=>rfl
theorem qbb7:ptT N0 = []:=by
 rw [N0,ptT,if_neg (fun h=>by have:=h.2;cases this)];rfl
theorem qfs (n:N):ptT n = if n.kind≠1∧n.text = arW then cloW (!decide ((n.kids.getD 0 N0).text = arW)) (ptT (n.kids.getD 0 N0)) ++ ([32,45,62,32] ++ ptT (n.kids.getD 1 N0))
 else n.text ++ (n.kids.map atT).flatten:=by
 obtain ⟨k,p,m,t,l⟩:=n
 rw [ptT,qw9,qej,qjn ptT [] qbb7,qjn ptT [] qbb7,List.map_map];rfl
mutual
def ptP:N->List UInt8
 | .mk k _ m t l=>if k = 12 then [95] else if k = 13 then digI m else t ++ (((ptPs l).zip l).map fun p=>32 :: cloW (qn p.2) p.1).flatten
def ptPs:List N->List (List UInt8)
 | []=>[]
 | x :: r=>ptP x :: ptPs r
end
def atP (n:N):List UInt8:=32 :: cloW (qn n) (ptP n)
theorem qza (l:List N):ptPs l = l.map ptP:=by
 induction l with
 | nil=>rfl
 | cons x r ih=>rw [ptPs,ih];rfl
theorem qhf (n:N):ptP n = if n.kind = 12 then [95] else if n.kind = 13 then digI n.num else n.text ++ (n.kids.map atP).flatten:=by
 obtain ⟨k,p,m,t,l⟩:=n
 rw [ptP,qza,qej,List.map_map];rfl
def prT (n:N):List UInt8:=n.text ++ atT (n.kids.getD 0 N0)
def cmW:List UInt8:=[44,32]
def ctT (l:List N):List UInt8:=if l = [] then [] else cloW (decide (l.length = 1)) (Lib.join (l.map prT) cmW) ++ [32,61,62,32]
def quT (n:N):List UInt8:=ctT (n.kids.take (n.kids.length - 1)) ++ ptT (n.kids.getD (n.kids.length - 1) N0)
def sgT (n:N):List UInt8:=n.text ++ ([32,58,58,32] ++ quT (n.kids.getD 0 N0))
def brW (s:List UInt8):List UInt8:=if s = [] then [123,32,125] else [123,32] ++ (s ++ [32,125])
def smW:List UInt8:=[59,32]
abbrev P3:=List UInt8×List UInt8×List UInt8
def q3:P3×N:=(([],[],[]),N0)
mutual
def pba:N->P3
 | .mk k _ m t ks =>
   let l:=(pbas ks).zip ks
   let e (i:Nat):=(l.getD i q3).1.1
   (if k = 23 then digI m
    else if k = 24 then cloW (qn (ks.getD 0 N0) || decide ((ks.getD 0 N0).kind = 24)) (e 0) ++ (32 :: cloW (qn (ks.getD 1 N0)) (e 1))
    else if k = 25 then [92,32] ++ (t ++ ([32,45,62,32] ++ e 0))
    else if k = 26 then [108,101,116,32] ++ (brW (Lib.join ((l.take (ks.length - 1)).map (·.1.2.1)) smW) ++ ([32,105,110,32] ++ e (ks.length - 1)))
    else if k = 27 then [99,97,115,101,32] ++ (e 0 ++ ([32,111,102,32] ++ brW (Lib.join ((l.drop 1).map (·.1.2.2)) smW)))
    else if k = 28 then [105,102,32] ++ (e 0 ++ ([32,116,104,101,110,32] ++ (e 1 ++ ([32,101,108,115,101,32] ++ e 2))))
    else t,
    if k = 31 then t ++ ([32,61,32] ++ e 0) else sgT (.mk k 0 m t ks),
    ptP (ks.getD 0 N0) ++ ([32,45,62,32] ++ e 1))
def pbas:List N->List P3
 | []=>[]
 | x :: r=>pba x :: pbas r
end
def ptE (n:N):List UInt8:=(pba n).1
def ptB (n:N):List UInt8:=(pba n).2.1
def ptL (n:N):List UInt8:=(pba n).2.2
theorem qle (l:List N):pbas l = l.map pba:=by
 induction l with
 | nil=>rfl
 | cons x r ih=>rw [pbas,ih];rfl
theorem qon (ks:List N) {i:Nat} (h:i < ks.length):(((ks.map pba).zip ks).getD i q3).1.1 = ptE (ks.getD i N0):=by
 rw [qej,List.getD_eq_getElem?_getD,List.getElem?_map,List.getD_eq_getElem?_getD,List.getElem?_eq_getElem h];rfl
theorem qni (n:N):ptE n = if n.kind = 23 then digI n.num
 else if n.kind = 24 then cloW (qn (n.kids.getD 0 N0) || decide ((n.kids.getD 0 N0).kind = 24)) (if 0 < n.kids.length then ptE (n.kids.getD 0 N0) else []) ++ (32 :: cloW (qn (n.kids.getD 1 N0)) (if 1 < n.kids.length then ptE (n.kids.getD 1 N0) else []))
 else if n.kind = 25 then [92,32] ++ (n.text ++ ([32,45,62,32] ++ (if 0 < n.kids.length then ptE (n.kids.getD 0 N0) else [])))
 else if n.kind = 26 then [108,101,116,32] ++ (brW (Lib.join ((n.kids.take (n.kids.length - 1)).map ptB) smW) ++ ([32,105,110,32] ++ (if 0 < n.kids.length then ptE (n.kids.getD (n.kids.length - 1) N0) else [])))
 else if n.kind = 27 then [99,97,115,101,32] ++ ((if 0 < n.kids.length then ptE (n.kids.getD 0 N0) else []) ++ ([32,111,102,32] ++ brW (Lib.join ((n.kids.drop 1).map ptL) smW)))
 else if n.kind = 28 then [105,102,32] ++ ((if 0 < n.kids.length then ptE (n.kids.getD 0 N0) else []) ++ ([32,116,104,101,110,32] ++ ((if 1 < n.kids.length then ptE (n.kids.getD 1 N0) else []) ++ ([32,101,108,115,101,32] ++ (if 2 < n.kids.length then ptE (n.kids.getD 2 N0) else [])))))
 else n.text:=by
 obtain ⟨k,p,m,t,ks⟩:=n
 have ha:∀ i,(((ks.map pba).zip ks).getD i q3).1.1 = if i < ks.length then ptE (ks.getD i N0) else []:=fun i=>by
  by_cases h:i < ks.length
  ·rw [if_pos h,qon ks h]
  ·rw [if_neg h,qej,List.getD_eq_getElem?_getD,List.getElem?_eq_none (by simpa using h)];rfl
 have hl:ks.length - 1 < ks.length ↔ 0 < ks.length:=by omega
 simp only [ptE,pba,qle,ha,N.kind,N.num,N.text,N.kids,hl]
 rw [qej,← List.map_take,← List.map_drop,List.map_map,List.map_map]
 rfl

def qcy (c:Int):Bool:=decide (c = 9) || decide (c = 10) || decide (c = 13) || decide (c = 32)
def qbe5 (c:Int):Bool:=!decide (c = 10)
def q9 (f:Int->Bool) (l:List UInt8):Nat:=(l.takeWhile fun c=>f c.toNat).length
theorem qpt {f:Int->Bool} {l:List UInt8} {i:Nat} (h:i < l.length):q9 f (l.drop i) = if f (l.getD i 0).toNat then q9 f (l.drop (i + 1)) + 1 else 0:=by
 rw [qmj h,q9,List.takeWhile_cons]
 split<;>simp [q9]
def pfx (p l:List UInt8):Bool:=decide (l.take p.length = p)
theorem qn3 (f:Int->Bool) (l:List UInt8):q9 f l≤l.length:=(List.takeWhile_sublist _).length_le
def qev (l:List UInt8):Nat:=if pfx [45,45] (l.drop (q9 qcy l)) then q9 qcy l + q9 qbe5 (l.drop (q9 qcy l)) else q9 qcy l
theorem qh6 (l:List UInt8):qev l≤l.length:=by
 unfold qev
 have h1:=qn3 qcy l
 have h2:=qn3 qbe5 (l.drop (q9 qcy l))
 rw [List.length_drop] at h2
 split<;>omega
def qht:Nat->List UInt8->Nat
 | 0,_=>0
 | f + 1,l=>if qev l = 0 then 0 else qev l + qht f (l.drop (qev l))
def qcg (l:List UInt8):Nat:=qht l.length l
theorem qhl:∀ (f g:Nat) (l:List UInt8),l.length≤f->l.length≤g->qht f l = qht g l
 | 0,0,l,_,_=>rfl
 | 0, g + 1, l, h1, h2 => by
   have:=qh6 l
   rw [qht,qht,if_pos (by omega)]
 | f + 1, 0, l, h1, h2 => by
   have:=qh6 l
   rw [qht,qht,if_pos (by omega)]
 | f + 1, g + 1, l, h1, h2 => by
   rw [qht,qht]
   split
   ·rfl
   ·rename_i h
    rw [qhl f g _ (by rw [List.length_drop];omega) (by rw [List.length_drop];omega)]
theorem qmb {l:List UInt8} (h:qev l = 0):qcg l = 0:=by
 unfold qcg
 cases l.length with
 | zero=>rfl
 | succ n=>rw [qht,if_pos h]
theorem qpr {l:List UInt8} (h:qev l≠0):qcg l = qev l + qcg (l.drop (qev l)):=by
 have hk:=qh6 l
 unfold qcg
 obtain ⟨n,hn⟩:∃ n,l.length = n + 1:=⟨l.length - 1,by omega⟩
 rw [hn,qht,if_neg h,qhl n (l.drop (qev l)).length _ (by rw [List.length_drop];omega) (Nat.le_refl _)]
theorem qp0 (l:List UInt8):qcg l≤l.length:=by
 generalize hn:l.length = n
 induction n using Nat.strongRecOn generalizing l with
 | _ n ih =>
   subst hn
   by_cases h:qev l = 0
   ·rw [qmb h];exact Nat.zero_le _
   ·have hk:=qh6 l
    have:=ih (l.drop (qev l)).length (by rw [List.length_drop];omega) _ rfl
    rw [qpr h];rw [List.length_drop] at this;omega
theorem q6w {l:List UInt8} (h:pfx [45,45] (l.drop (q9 qcy l)) = false):qev l = q9 qcy l:=by rw [qev,h];rfl
theorem qok {c:UInt8} {r:List UInt8} (h:qcy c.toNat = true):qcg (c :: r) = 1 + qcg r:=by
 have hw:q9 qcy (c :: r) = q9 qcy r + 1:=by simp [q9,List.takeWhile_cons,h]
 have hk:qev (c :: r) = qev r + 1:=by
  unfold qev
  rw [hw,List.drop_succ_cons]
  split<;>omega
 rw [qpr (by omega),hk,List.drop_succ_cons]
 by_cases h0:qev r = 0
 ·rw [h0,qmb h0];simp [qmb h0]
 ·rw [qpr h0];omega
theorem qy4 {a:UInt8} {p l:List UInt8} (h:pfx (a :: p) l = true):∃ r,l = a :: r:=by
 cases l with
 | nil=>simp [pfx] at h
 | cons b r=>simp only [pfx,decide_eq_true_eq,List.length_cons,List.take_succ_cons,List.cons.injEq] at h;exact ⟨r,by rw [h.1]⟩
theorem qg7 {l:List UInt8} (h:pfx [45,45] l = false) (hb:q9 qcy l = 0):qcg l = 0:=by
 rw [qmb]
 rw [q6w (by rw [hb];exact h),hb]
end Go.Proofs.Ytlmcofjcpadmiaa
