/- Texts of this proof, joined. -/
import Derived.Test.YtlmcofjcpadmiaaGreatWap
import Derived.Test.YtlmcofjcpadmiaaGreatWaq
import Derived.Lib.Join
set_option linter.unusedVariables false
set_option linter.unusedSimpArgs false

/- texts of numbers -/
set_option maxRecDepth 4000
namespace Go.Proofs.YtlmcofjcpadmiaaGreat
open Go Go.RowKit Go.V

theorem qz1 {z:Int} (h0:0≤z) (h1:z≤255):IntKind.u8.wrap z = z:=by
 unfold IntKind.wrap IntKind.signed IntKind.bits
 simp only [Bool.false_and,Bool.false_eq_true,if_false]
 omega
theorem qh5 {z:Int} (h0:0≤z) (h1:z < 18446744073709551616):IntKind.u64.wrap z = z:=by
 unfold IntKind.wrap IntKind.signed IntKind.bits
 simp only [Bool.false_and,Bool.false_eq_true,if_false]
 omega
theorem qot {z:Int} (h0:z < 0) (h1:-9223372036854775808≤z):IntKind.u64.wrap z = z + 18446744073709551616:=by
 unfold IntKind.wrap IntKind.signed IntKind.bits
 simp only [Bool.false_and,Bool.false_eq_true,if_false]
 omega
theorem qoq {n:Int} (h:(Lit.int .i64 n).wf = true):-9223372036854775808≤n∧n≤9223372036854775807:=by
 simpa [Lit.wf,IntKind.min,IntKind.max,IntKind.signed,IntKind.bits] using h
def absI (n:Int):Int:=n.natAbs
theorem qp7 (n:Int):qh Tryz.prog 124 [.int .i64 n] (.int .u64 (absI n)):=by
 refine qe c0df (by simp) (by simp only [go_sem]) rfl fun hw=>?_
 have hn:=qoq hw.1
 repeat' (first | refine vs_ ?_ | ((first | refine vr_ ?_ | (refine cs_ ?_ ?_<;>intro hc) | refine cj_ ?_ | fail)<;>(try refine ev_ ?_)) | with_reducible exact ti_)
 ·have h1:IntKind.u64.wrap (0 - IntKind.u64.wrap n) = absI n:=by
   rw [qot (by omega) hn.1,show (0:Int) - (n + 18446744073709551616) = (-n) - 18446744073709551616 by omega]
   have:IntKind.u64.wrap (-n - 18446744073709551616) = -n:=by
    unfold IntKind.wrap IntKind.signed IntKind.bits
    simp only [Bool.false_and,Bool.false_eq_true,if_false]
    omega
   rw [this,absI];omega
  rw [h1]
 ·have h1:IntKind.u64.wrap n = absI n:=by rw [qh5 (by omega) (by omega),absI];omega
  rw [h1]

theorem qlc {u:Nat} (h:9 < u) (s:List UInt8):digN (u / 10) ++ (UInt8.ofNat (48 + u % 10) :: s) = digN u ++ s:=by
 rw [qm2 (u:=u) (by omega)];simp
theorem qtc {u:Nat} (h:u < 18446744073709551616):(digN u).length≤20:=qn0 19 u (by omega)
theorem q0c (u:Nat):(u:Int).tmod 10 = ((u % 10:Nat):Int):=by rw [Int.tmod_eq_emod_of_nonneg (by omega)];omega
theorem qz8 (u:Nat):(u:Int).tdiv 10 = ((u / 10:Nat):Int):=by rw [Int.tdiv_eq_ediv_of_nonneg (by omega)];omega
theorem qoa {u:Nat}:IntKind.u8.wrap (IntKind.u64.wrap (48 + ((u % 10:Nat):Int))) = ((48 + u % 10:Nat):Int):=by
 rw [qh5 (by omega) (by omega),qz1 (by omega) (by omega)];omega
theorem qss {u:Nat} (h:u≤9):IntKind.u8.wrap (IntKind.u64.wrap (48 + (u:Int))) = ((48 + u:Nat):Int):=by
 rw [qh5 (by omega) (by omega),qz1 (by omega) (by omega)];omega
theorem qs2 (u:Nat) (h:u < 18446744073709551616):IntKind.u64.wrap ((u / 10:Nat):Int) = ((u / 10:Nat):Int):=qh5 (by omega) (by omega)
attribute [go_sem] qd1 qh8 Int.toNat_natCast
theorem qbk6 {u u':Nat} {s:List UInt8} (h:digN u ++ s = digN u' ) (h':u' < 18446744073709551616):s.length≤20:=by
 have h1:=congrArg List.length h
 rw [List.length_append] at h1
 have:=qtc h'
 omega
theorem qga (n:Int):qh Tryz.prog 78 [.int .i64 n] (.str (digI n)):=by
 refine qe c0dg (by simp) (by simp only [go_sem]) rfl fun hw=>?_
 have hn:=qoq hw.1
 have ha:n.natAbs < 18446744073709551616:=by omega
 repeat' (first | refine vs_ ?_ | ((first | refine vr_ ?_ | refine qa (qp7 _) fun _=>?_ | (refine cs_ ?_ ?_<;>intro hc) | refine cj_ ?_ | simp (disch:=omega) only [qb,qf])<;>(try refine ev_ ?_)) | with_reducible exact ti_)
 refine qt (S:=Nat×List UInt8) (fun x=>digN x.1 ++ x.2 = digN n.natAbs∧x.1 < 18446744073709551616) (fun x=>(⟨[(0,.int .i64 n),(3,.int .u64 x.1),(4,.str x.2)],[]⟩,[])) (fun x=>x.1) ?_ fun x hx=>?_
 ·refine qs (n.natAbs,[]) [] ⟨by simp,ha⟩ rfl (by simp) ?_ ?_ ?_<;>(try refine ev_ ?_)<;>(try with_reducible exact ti_)<;>(try simp (disch:=omega) only [qf,and_true,true_and])
  rfl
 ·obtain ⟨u,s⟩:=x
  obtain ⟨h1,h2⟩:=hx
  dsimp only at h1 h2
  have hl:=qbk6 h1 ha
  have hm:1 + s.length≤maxLen:=by unfold maxLen;omega
  have hm2:1 + (s.length + 1)≤maxLen:=by unfold maxLen;omega
  repeat' (first | refine vs_ ?_ | ((first | refine vr_ ?_ | fail)<;>(try simp (disch:=first | omega | (simp only [List.length_set,List.length_append,List.length_cons,List.length_nil];done) | (simp only [List.length_set,List.length_append,List.length_cons,List.length_nil];omega)) only [q0c,qz8,qoa,qss,qs2 u h2,go_sem,↓reduceIte])) | ((first | (refine cs_ ?_ ?_<;>intro hc) | refine cj_ ?_ | simp (disch:=omega) only [qb,qf])<;>(try refine ev_ ?_)) | with_reducible exact ti_)
  ·refine qs (u / 10,UInt8.ofNat (48 + u % 10) :: s) [] ⟨⟨by rw [qlc (by omega)];exact h1,by dsimp only;omega⟩,by dsimp only;omega⟩ rfl (by simp) ?_ ?_ ?_<;>(try refine ev_ ?_)<;>(try with_reducible exact ti_)<;>(try simp (disch:=omega) only [qf,and_true,true_and])
  ·rw [digI,if_pos (by assumption),← h1,qe4 (by omega)];rfl
  ·rw [digI,if_neg (by assumption),← h1,qe4 (by omega)];rfl

/-! the program's: an array of 20 bytes, filled from behind -/
def e8 (c:UInt8):AV:=.int .u8 c.toNat
def qcm (s:List UInt8):List AV:=List.replicate (20 - s.length) (.int .u8 0) ++ s.map e8
theorem qi8 {s:List UInt8} (h:s.length≤20):(qcm s).length = 20:=by simp [qcm];omega
theorem qo2 {s:List UInt8} {c:UInt8} (h:s.length < 20):(qcm s).set (19 - s.length) (.int .u8 c.toNat) = qcm (c :: s):=by
 obtain ⟨k,hk⟩:∃ k,20 - s.length = k + 1:=⟨19 - s.length,by omega⟩
 have h1:19 - s.length = k:=by omega
 have h2:20 - (c :: s).length = k:=by simp;omega
 rw [qcm,qcm,hk,h1,h2,List.replicate_succ',List.append_assoc,List.set_append_right _ _ (by simp)]
 simp [e8]
theorem qtj {s:List UInt8} (h:s.length≤20):tk (20 - s.length) (20 - (20 - s.length)) (qcm s) = s.map e8:=by
 rw [tk,qcm,List.drop_append,List.drop_of_length_le (by simp)]
 simp only [List.length_replicate,Nat.sub_self,List.drop_zero,List.nil_append]
 rw [List.take_of_length_le (by simp;omega)]
theorem qwq (s:List UInt8):(s.map e8).all qd1 = true:=by simp [e8,qd1]
theorem q90 (s:List UInt8):(s.map e8).map qh8 = s:=by
 rw [List.map_map]
 refine (List.map_congr_left fun c _=>?_).trans (List.map_id s)
 simp [e8,qh8]
theorem qjn {k:Nat} {s:List UInt8}:AV.bds k (qcm s) = true:=by
 rw [qcm,qjk];simp [e8,AV.bd]
theorem qp6 {σ:Nat->Nat} {s:List UInt8}:AV.rens σ (qcm s) = qcm s:=qx (m:=0) (fun i hi=>by omega) _ qjn
attribute [go_sem] qjn qp6
theorem qbi5 {k:Nat} (h:k < 20):IntKind.i64.wrap (((20 - k:Nat):Int) - 1) = ((19 - k:Nat):Int):=by
 have h1:((20 - k:Nat):Int) - 1 = ((19 - k:Nat):Int):=by omega
 rw [h1]
 exact qf0 (by omega) (by unfold maxLen;omega)
theorem qbeg {n:Int} (hn:-9223372036854775808≤n∧n≤9223372036854775807):(n < 0->IntKind.u64.wrap (0 - IntKind.u64.wrap n) = n.natAbs)∧(¬ n < 0->IntKind.u64.wrap n = n.natAbs):=by
 refine ⟨fun h=>?_,fun h=>?_⟩
 ·rw [qot (by omega) hn.1,show (0:Int) - (n + 18446744073709551616) = (-n) - 18446744073709551616 by omega]
  have:IntKind.u64.wrap (-n - 18446744073709551616) = -n:=by
   unfold IntKind.wrap IntKind.signed IntKind.bits
   simp only [Bool.false_and,Bool.false_eq_true,if_false]
   omega
  rw [this];omega
 ·rw [qh5 (by omega) (by omega)];omega
def e8s (s:List UInt8):List AV:=s.map e8
theorem qr4 (s:List UInt8):(e8s s).all qd1 = true:=qwq s
theorem qt2 (s:List UInt8):(e8s s).map qh8 = s:=q90 s
theorem qnh {s:List UInt8} {u:Nat} (h:s.length < 20):(qcm s).set (19 - s.length) (.int .u8 ((48 + u % 10:Nat):Int)) = qcm (UInt8.ofNat (48 + u % 10) :: s):=by
 rw [← qo2 h]
 congr 2
 rw [UInt8.toNat_ofNat'];omega
theorem qna {s:List UInt8} {c:UInt8} (h:s.length < 20):List.take (20 - (19 - s.length)) (List.drop (19 - s.length) (qcm (c :: s))) = e8s (c :: s):=by
 have h1:19 - s.length = 20 - (c :: s).length:=by rw [List.length_cons];omega
 rw [h1]
 exact qtj (s:=c :: s) (by simp;omega)
theorem qzo {H:List Ent} {n i off len cap:Nat}:co H (.sl n) (.vw i off len cap) = .vw i off len cap:=Eq.trans rfl rfl
attribute [go_sem] qzo
theorem qfw (n:Int):qh Tryz.prog 132 [.int .i64 n] (.str (digI n)):=by
 refine qe c0dh (by simp) (by simp only [go_sem]) rfl fun hw=>?_
 have hn:=qoq hw.1
 have ha:n.natAbs < 18446744073709551616:=by omega
 obtain ⟨hn1,hn2⟩:=qbeg hn
 unfold k0dh
 refine qn1 (qny ?_)
 (refine ev_ ?_;(try with_reducible exact ti_))
 refine qn1 (qny ?_)
 (refine ev_ ?_;(try with_reducible exact ti_))
 refine qbeq (S:=Unit) (fun _=>True) (fun _=>(⟨[(0,.int .i64 n),(3,.int .u64 n.natAbs)],[]⟩,[])) ?_ fun _ _=>?_
 ·repeat' (first | refine vs_ ?_ | ((first | refine vr_ ?_ | (refine cs_ ?_ ?_<;>intro hc) | refine cj_ ?_ | simp (disch:=omega) only [qb,qf])<;>(try refine ev_ ?_)) | with_reducible exact ti_)
  ·refine qs () [] trivial rfl (by simp) ?_ ?_ ?_<;>(try rw [hn1 (by assumption)])<;>(try refine ev_ ?_)<;>(try with_reducible exact ti_)<;>(try simp (disch:=omega) only [qf,and_true,true_and])
  ·refine qs () [] trivial rfl (by simp) ?_ ?_ ?_<;>(try rw [hn2 (by assumption)])<;>(try refine ev_ ?_)<;>(try with_reducible exact ti_)<;>(try simp (disch:=omega) only [qf,and_true,true_and])
 ·repeat' (first | refine vs_ ?_ | ((first | refine vr_ ?_ | (refine cs_ ?_ ?_<;>intro hc) | refine cj_ ?_ | simp (disch:=omega) only [qb,qf])<;>(try refine ev_ ?_)) | with_reducible exact ti_)
  refine qt (S:=Nat×List UInt8) (fun x=>digN x.1 ++ x.2 = digN n.natAbs∧x.1 < 18446744073709551616) (fun x=>(⟨[(0,.int .i64 n),(3,.int .u64 x.1),(4,.ptr 0 0),(5,.int .i64 ((20 - x.2.length:Nat):Int))],[]⟩,[.blk (qcm x.2)])) (fun x=>x.1) ?_ fun x hx=>?_
  ·refine qs (n.natAbs,[]) [0] ⟨by simp,ha⟩ rfl (by simp) ?_ ?_ ?_<;>(try refine ev_ ?_)<;>(try with_reducible exact ti_)<;>(try simp (disch:=omega) only [qf,and_true,true_and])
   all_goals rfl
  ·obtain ⟨u,s⟩:=x
   obtain ⟨h1,h2⟩:=hx
   dsimp only at h1 h2
   have hl:s.length < 20:=by
    have:=congrArg List.length h1
    rw [List.length_append] at this
    have:=qtc ha
    have:=qxx u
    omega
   have h3:=qi8 (Nat.le_of_lt hl)
   have h4:=qi8 (s:=UInt8.ofNat (48 + u % 10) :: s) (by simp;omega)
   have h5:=qr4 (UInt8.ofNat (48 + u % 10) :: s)
   have h6:=qt2 (UInt8.ofNat (48 + u % 10) :: s)
   have hm:20 - (19 - s.length)≤maxLen:=by unfold maxLen;omega
   have hm2:1 + (s.length + 1)≤maxLen:=by unfold maxLen;omega
   repeat' (first | refine vs_ ?_ | ((first | refine vr_ ?_ | fail)<;>(try simp only [q0c,qz8,qoa,qs2 u h2,qbi5 hl,qnh hl,qna hl,h3,h4,h5,h6,Nat.zero_add,Nat.mul_one,go_sem,↓reduceIte])) | ((first | (refine cs_ ?_ ?_<;>intro hc) | refine cj_ ?_ | simp (disch:=omega) only [qb,qf])<;>(try refine ev_ ?_)) | with_reducible exact ti_)
   ·rw [digI,if_pos (by assumption),← h1,qe4 (u:=u) (by omega),show u % 10 = u by omega];rfl
   ·rw [digI,if_neg (by assumption),← h1,qe4 (u:=u) (by omega),show u % 10 = u by omega];rfl
   ·refine qs (u / 10,UInt8.ofNat (48 + u % 10) :: s) [0] ⟨⟨by rw [qlc (by omega)];exact h1,by dsimp only;omega⟩,by dsimp only;omega⟩ rfl (by simp) ?_ ?_ ?_<;>(try refine ev_ ?_)<;>(try with_reducible exact ti_)<;>(try simp (disch:=omega) only [qf,and_true,true_and])
    all_goals (rw [show 20 - (s.length + 1) = 19 - s.length by omega])
/-! letters -/
theorem qoh {n:Int} (h:(Lit.int .i64 n).wf = true):(digI n).length≤21:=by
 have hn:=qoq h
 have:=qtc (u:=n.natAbs) (by omega)
 rw [digI]
 split
 ·rw [List.length_cons];omega
 ·omega
theorem qb8 {z:Int} (h0:-9223372036854775808≤z) (h1:z≤9223372036854775807):IntKind.i64.wrap z = z:=by
 simp [IntKind.wrap,IntKind.signed,IntKind.bits]
 omega

def arW:List UInt8:=[45,62]
def qn (n:N):Bool:=decide (n.kids = [])
def cloW (b:Bool) (s:List UInt8):List UInt8:=if b = true then s else 40 :: (s ++ [41])
mutual
def ptT:N->List UInt8
 | .mk k _ _ t l => if k ≠ 1 ∧ t = arW then cloW (!decide ((l.getD 0 N0).text = arW)) ((ptTs l).getD 0 []) ++ ([32, 45, 62, 32] ++ (ptTs l).getD 1 [])
   else t ++ (((ptTs l).zip l).map fun p=>32 :: cloW (qn p.2) p.1).flatten
def ptTs:List N->List (List UInt8)
 | []=>[]
 | x :: r=>ptT x :: ptTs r
end
def atT (n:N):List UInt8:=32 :: cloW (qn n) (ptT n)
theorem qur (l:List N):ptTs l = l.map ptT:=by
 induction l with
 | nil=>rfl
 | cons x r ih=>rw [ptTs,ih];rfl
theorem qdn {α β:Type} (f:α->β) (l:List α):(l.map f).zip l = l.map fun x=>(f x,x):=by
 induction l with
 | nil=>rfl
 | cons x r ih=>rw [List.map_cons,List.zip_cons_cons,ih];rfl
theorem qlb {α:Type} (f:N->α) (d:α) (h:f N0 = d) (l:List N) (i:Nat):(l.map f).getD i d = f (l.getD i N0):=by
 rw [List.getD_eq_getElem?_getD,List.getElem?_map,List.getD_eq_getElem?_getD]
 cases l[i]? with
 | none=>exact h.symm
 | some x=>rfl
theorem qbim:ptT N0 = []:=by
 rw [N0,ptT,if_neg (fun h=>by have:=h.2;cases this)];rfl
theorem qeh (n:N):ptT n = if n.kind≠1∧n.text = arW then cloW (!decide ((n.kids.getD 0 N0).text = arW)) (ptT (n.kids.getD 0 N0)) ++ ([32,45,62,32] ++ ptT (n.kids.getD 1 N0))
 else n.text ++ (n.kids.map atT).flatten:=by
 obtain ⟨k,p,m,t,l⟩:=n
 rw [ptT,qur,qdn,qlb ptT [] qbim,qlb ptT [] qbim,List.map_map];rfl
mutual
def ptP:N->List UInt8
 | .mk k _ m t l=>if k = 12 then [95] else if k = 13 then digI m else t ++ (((ptPs l).zip l).map fun p=>32 :: cloW (qn p.2) p.1).flatten
def ptPs:List N->List (List UInt8)
 | []=>[]
 | x :: r=>ptP x :: ptPs r
end
def atP (n:N):List UInt8:=32 :: cloW (qn n) (ptP n)
theorem quw (l:List N):ptPs l = l.map ptP:=by
 induction l with
 | nil=>rfl
 | cons x r ih=>rw [ptPs,ih];rfl
theorem qgr (n:N):ptP n = if n.kind = 12 then [95] else if n.kind = 13 then digI n.num else n.text ++ (n.kids.map atP).flatten:=by
 obtain ⟨k,p,m,t,l⟩:=n
 rw [ptP,quw,qdn,List.map_map];rfl
def prT (n:N):List UInt8:=n.text ++ atT (n.kids.getD 0 N0)
def cmW:List UInt8:=[44,32]
def ctT (l:List N):List UInt8:=if l = [] then [] else cloW (decide (l.length = 1)) (Lib.join (l.map prT) cmW) ++ [32,61,62,32]
def quT (n:N):List UInt8:=ctT (n.kids.take (n.kids.length - 1)) ++ ptT (n.kids.getD (n.kids.length - 1) N0)
def sgT (n:N):List UInt8:=n.text ++ ([32,58,58,32] ++ quT (n.kids.getD 0 N0))
def brW (s:List UInt8):List UInt8:=if s = [] then [123,32,125] else [123,32] ++ (s ++ [32,125])
def smW:List UInt8:=[59,32]
abbrev P3:=List UInt8×List UInt8×List UInt8
def q3:P3×N:=(([],[],[]),N0)
mutual
def pba:N->P3
 | .mk k _ m t ks =>
   let l:=(pbas ks).zip ks
   let e (i:Nat):=(l.getD i q3).1.1
   (if k = 23 then digI m
    else if k = 24 then cloW (qn (ks.getD 0 N0) || decide ((ks.getD 0 N0).kind = 24)) (e 0) ++ (32 :: cloW (qn (ks.getD 1 N0)) (e 1))
    else if k = 25 then [92,32] ++ (t ++ ([32,45,62,32] ++ e 0))
    else if k = 26 then [108,101,116,32] ++ (brW (Lib.join ((l.take (ks.length - 1)).map (·.1.2.1)) smW) ++ ([32,105,110,32] ++ e (ks.length - 1)))
    else if k = 27 then [99,97,115,101,32] ++ (e 0 ++ ([32,111,102,32] ++ brW (Lib.join ((l.drop 1).map (·.1.2.2)) smW)))
    else if k = 28 then [105,102,32] ++ (e 0 ++ ([32,116,104,101,110,32] ++ (e 1 ++ ([32,101,108,115,101,32] ++ e 2))))
    else t,
    if k = 31 then t ++ ([32,61,32] ++ e 0) else sgT (.mk k 0 m t ks),
    ptP (ks.getD 0 N0) ++ ([32,45,62,32] ++ e 1))
def pbas:List N->List P3
 | []=>[]
 | x :: r=>pba x :: pbas r
end
def ptE (n:N):List UInt8:=(pba n).1
def ptB (n:N):List UInt8:=(pba n).2.1
def ptL (n:N):List UInt8:=(pba n).2.2
theorem qkn (l:List N):pbas l = l.map pba:=by
 induction l with
 | nil=>rfl
 | cons x r ih=>rw [pbas,ih];rfl
theorem qnb (ks:List N) {i:Nat} (h:i < ks.length):(((ks.map pba).zip ks).getD i q3).1.1 = ptE (ks.getD i N0):=by
 rw [qdn,List.getD_eq_getElem?_getD,List.getElem?_map,List.getD_eq_getElem?_getD,List.getElem?_eq_getElem h];rfl
theorem qrr (n:N):ptE n = if n.kind = 23 then digI n.num
 else if n.kind = 24 then cloW (qn (n.kids.getD 0 N0) || decide ((n.kids.getD 0 N0).kind = 24)) (if 0 < n.kids.length then ptE (n.kids.getD 0 N0) else []) ++ (32 :: cloW (qn (n.kids.getD 1 N0)) (if 1 < n.kids.length then ptE (n.kids.getD 1 N0) else []))
 else if n.kind = 25 then [92,32] ++ (n.text ++ ([32,45,62,32] ++ (if 0 < n.kids.length then ptE (n.kids.getD 0 N0) else [])))
 else if n.kind = 26 then [108,101,116,32] ++ (brW (Lib.join ((n.kids.take (n.kids.length - 1)).map ptB) smW) ++ ([32,105,110,32] ++ (if 0 < n.kids.length then ptE (n.kids.getD (n.kids.length - 1) N0) else [])))
 else if n.kind = 27 then [99,97,115,101,32] ++ ((if 0 < n.kids.length then ptE (n.kids.getD 0 N0) else []) ++ ([32,111,102,32] ++ brW (Lib.join ((n.kids.drop 1).map ptL) smW)))
 else if n.kind = 28 then [105,102,32] ++ ((if 0 < n.kids.length then ptE (n.kids.getD 0 N0) else []) ++ ([32,116,104,101,110,32] ++ ((if 1 < n.kids.length then ptE (n.kids.getD 1 N0) else []) ++ ([32,101,108,115,101,32] ++ (if 2 < n.kids.length then ptE (n.kids.getD 2 N0) else [])))))
 else n.text:=by
 obtain ⟨k,p,m,t,ks⟩:=n
 have ha:∀ i,(((ks.map pba).zip ks).getD i q3).1.1 = if i < ks.length then ptE (ks.getD i N0) else []:=fun i=>by
  by_cases h:i < ks.length
  ·rw [if_pos h,qnb ks h]
  ·rw [if_neg h,qdn,List.getD_eq_getElem?_getD,List.getElem?_eq_none (by simpa using h)];rfl
 have hl:ks.length - 1 < ks.length ↔ 0 < ks.length:=by omega
 simp only [ptE,pba,qkn,ha,N.kind,N.num,N.text,N.kids,hl]
 rw [qdn,← List.map_take,← List.map_drop,List.map_map,List.map_map]
 rfl
set_option maxRecDepth 4000

end Go.Proofs.YtlmcofjcpadmiaaGreat
