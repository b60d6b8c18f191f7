/- A text of this proof. -/
import Derived.Test.YtlmcofjcpadmiaaGreatNao
import Derived.Test.YtlmcofjcpadmiaaGreatNap
set_option linter.unusedVariables false
set_option linter.unusedSimpArgs false

/- texts of numbers -/
set_option maxRecDepth 4000
namespace Go.Proofs.YtlmcofjcpadmiaaGreat
open Go Go.RowKit Go.V

theorem qbpo {z:Int} (h0:0≤z) (h1:z≤255):IntKind.u8.wrap z = z:=by
 unfold IntKind.wrap IntKind.signed IntKind.bits
 simp only [Bool.false_and,Bool.false_eq_true,if_false]
 omega
theorem qtd {z:Int} (h0:0≤z) (h1:z < 18446744073709551616):IntKind.u64.wrap z = z:=by
 unfold IntKind.wrap IntKind.signed IntKind.bits
 simp only [Bool.false_and,Bool.false_eq_true,if_false]
 omega
theorem q68 {z:Int} (h0:z < 0) (h1:-9223372036854775808≤z):IntKind.u64.wrap z = z + 18446744073709551616:=by
 unfold IntKind.wrap IntKind.signed IntKind.bits
 simp only [Bool.false_and,Bool.false_eq_true,if_false]
 omega
theorem q1i {n:Int} (h:(Lit.int .i64 n).wf = true):-9223372036854775808≤n∧n≤9223372036854775807:=by
 simpa [Lit.wf,IntKind.min,IntKind.max,IntKind.signed,IntKind.bits] using h
def absI (n:Int):Int:=n.natAbs
theorem q7r (n:Int):qx Tryz.prog 124 [.int .i64 n] (.int .u64 (absI n)):=by
 refine qn c0cl (by simp) (by simp only [go_sem]) rfl fun hw=>?_
 have hn:=q1i hw.1
 repeat' (first | refine vs_ ?_ | ((first | refine vr_ ?_ | (refine cs_ ?_ ?_<;>intro hc) | refine cj_ ?_ | fail)<;>(try refine ev_ ?_)) | with_reducible exact ti_)
 ·have h1:IntKind.u64.wrap (0 - IntKind.u64.wrap n) = absI n:=by
   rw [q68 (by omega) hn.1,show (0:Int) - (n + 18446744073709551616) = (-n) - 18446744073709551616 by omega]
   have:IntKind.u64.wrap (-n - 18446744073709551616) = -n:=by
    unfold IntKind.wrap IntKind.signed IntKind.bits
    simp only [Bool.false_and,Bool.false_eq_true,if_false]
    omega
   rw [this,absI];omega
  rw [h1]
 ·have h1:IntKind.u64.wrap n = absI n:=by rw [qtd (by omega) (by omega),absI];omega
  rw [h1]

theorem q1s {u:Nat} (h:9 < u) (s:List UInt8):digN (u / 10) ++ (UInt8.ofNat (48 + u % 10) :: s) = digN u ++ s:=by
 rw [qtq (u:=u) (by omega)];simp
theorem qbee {u:Nat} (h:u < 18446744073709551616):(digN u).length≤20:=q58 19 u (by omega)
theorem qbpa (u:Nat):(u:Int).tmod 10 = ((u % 10:Nat):Int):=by rw [Int.tmod_eq_emod_of_nonneg (by omega)];omega
theorem qbp5 (u:Nat):(u:Int).tdiv 10 = ((u / 10:Nat):Int):=by rw [Int.tdiv_eq_ediv_of_nonneg (by omega)];omega
theorem q5m {u:Nat}:IntKind.u8.wrap (IntKind.u64.wrap (48 + ((u % 10:Nat):Int))) = ((48 + u % 10:Nat):Int):=by
 rw [qtd (by omega) (by omega),qbpo (by omega) (by omega)];omega
theorem q99 {u:Nat} (h:u≤9):IntKind.u8.wrap (IntKind.u64.wrap (48 + (u:Int))) = ((48 + u:Nat):Int):=by
 rw [qtd (by omega) (by omega),qbpo (by omega) (by omega)];omega
theorem qbdl (u:Nat) (h:u < 18446744073709551616):IntKind.u64.wrap ((u / 10:Nat):Int) = ((u / 10:Nat):Int):=qtd (by omega) (by omega)
attribute [go_sem] qkh qtw Int.toNat_natCast
theorem qckv {u u':Nat} {s:List UInt8} (h:digN u ++ s = digN u' ) (h':u' < 18446744073709551616):s.length≤20:=by
 have h1:=congrArg List.length h
 rw [List.length_append] at h1
 have:=qbee h'
 omega
theorem qccr (n:Int):qx Tryz.prog 78 [.int .i64 n] (.str (digI n)):=by
 refine qn c0cm (by simp) (by simp only [go_sem]) rfl fun hw=>?_
 have hn:=q1i hw.1
 have ha:n.natAbs < 18446744073709551616:=by omega
 repeat' (first | refine vs_ ?_ | ((first | refine vr_ ?_ | refine qa (q7r _) fun _=>?_ | (refine cs_ ?_ ?_<;>intro hc) | refine cj_ ?_ | simp (disch:=omega) only [qc,qs])<;>(try refine ev_ ?_)) | with_reducible exact ti_)
 refine qcm (S:=Nat×List UInt8) (fun x=>digN x.1 ++ x.2 = digN n.natAbs∧x.1 < 18446744073709551616) (fun x=>(⟨[(0,.int .i64 n),(3,.int .u64 x.1),(4,.str x.2)],[]⟩,[])) (fun x=>x.1) ?_ fun x hx=>?_
 ·refine qb1 (n.natAbs,[]) [] ⟨by simp,ha⟩ rfl (by simp) ?_ ?_ ?_<;>(try refine ev_ ?_)<;>(try with_reducible exact ti_)<;>(try simp (disch:=omega) only [qs,and_true,true_and])
  rfl
 ·obtain ⟨u,s⟩:=x
  obtain ⟨h1,h2⟩:=hx
  dsimp only at h1 h2
  have hl:=qckv h1 ha
  have hm:1 + s.length≤maxLen:=by unfold maxLen;omega
  have hm2:1 + (s.length + 1)≤maxLen:=by unfold maxLen;omega
  repeat' (first | refine vs_ ?_ | ((first | refine vr_ ?_ | fail)<;>(try simp (disch:=first | omega | (simp only [List.length_set,List.length_append,List.length_cons,List.length_nil];done) | (simp only [List.length_set,List.length_append,List.length_cons,List.length_nil];omega)) only [qbpa,qbp5,q5m,q99,qbdl u h2,go_sem,↓reduceIte])) | ((first | (refine cs_ ?_ ?_<;>intro hc) | refine cj_ ?_ | simp (disch:=omega) only [qc,qs])<;>(try refine ev_ ?_)) | with_reducible exact ti_)
  ·refine qb1 (u / 10,UInt8.ofNat (48 + u % 10) :: s) [] ⟨⟨by rw [q1s (by omega)];exact h1,by dsimp only;omega⟩,by dsimp only;omega⟩ rfl (by simp) ?_ ?_ ?_<;>(try refine ev_ ?_)<;>(try with_reducible exact ti_)<;>(try simp (disch:=omega) only [qs,and_true,true_and])
  ·rw [digI,if_pos (by assumption),← h1,qjp (by omega)];rfl
  ·rw [digI,if_neg (by assumption),← h1,qjp (by omega)];rfl

/-! the program's: an array of 20 bytes, filled from behind -/
def e8 (c:UInt8):AV:=.int .u8 c.toNat
def qgv (s:List UInt8):List AV:=List.replicate (20 - s.length) (.int .u8 0) ++ s.map e8
theorem qu0 {s:List UInt8} (h:s.length≤20):(qgv s).length = 20:=by simp [qgv];omega
theorem q78 {s:List UInt8} {c:UInt8} (h:s.length < 20):(qgv s).set (19 - s.length) (.int .u8 c.toNat) = qgv (c :: s):=by
 obtain ⟨k,hk⟩:∃ k,20 - s.length = k + 1:=⟨19 - s.length,by omega⟩
 have h1:19 - s.length = k:=by omega
 have h2:20 - (c :: s).length = k:=by simp;omega
 rw [qgv,qgv,hk,h1,h2,List.replicate_succ',List.append_assoc,List.set_append_right _ _ (by simp)]
 simp [e8]
theorem qbb1 {s:List UInt8} (h:s.length≤20):tk (20 - s.length) (20 - (20 - s.length)) (qgv s) = s.map e8:=by
 rw [tk,qgv,List.drop_append,List.drop_of_length_le (by simp)]
 simp only [List.length_replicate,Nat.sub_self,List.drop_zero,List.nil_append]
 rw [List.take_of_length_le (by simp;omega)]
theorem qbke (s:List UInt8):(s.map e8).all qkh = true:=by simp [e8,qkh]
theorem qb17 (s:List UInt8):(s.map e8).map qtw = s:=by
 rw [List.map_map]
 refine (List.map_congr_left fun c _=>?_).trans (List.map_id s)
 simp [e8,qtw]
theorem qu5 {k:Nat} {s:List UInt8}:AV.bds k (qgv s) = true:=by
 rw [qgv,qq8];simp [e8,AV.bd]
theorem q9m {σ:Nat->Nat} {s:List UInt8}:AV.rens σ (qgv s) = qgv s:=qb9 (m:=0) (fun i hi=>by omega) _ qu5
attribute [go_sem] qu5 q9m
theorem qcii {k:Nat} (h:k < 20):IntKind.i64.wrap (((20 - k:Nat):Int) - 1) = ((19 - k:Nat):Int):=by
 have h1:((20 - k:Nat):Int) - 1 = ((19 - k:Nat):Int):=by omega
 rw [h1]
 exact qit (by omega) (by unfold maxLen;omega)
theorem qbrt {n:Int} (hn:-9223372036854775808≤n∧n≤9223372036854775807):(n < 0->IntKind.u64.wrap (0 - IntKind.u64.wrap n) = n.natAbs)∧(¬ n < 0->IntKind.u64.wrap n = n.natAbs):=by
 refine ⟨fun h=>?_,fun h=>?_⟩
 ·rw [q68 (by omega) hn.1,show (0:Int) - (n + 18446744073709551616) = (-n) - 18446744073709551616 by omega]
  have:IntKind.u64.wrap (-n - 18446744073709551616) = -n:=by
   unfold IntKind.wrap IntKind.signed IntKind.bits
   simp only [Bool.false_and,Bool.false_eq_true,if_false]
   omega
  rw [this];omega
 ·rw [qtd (by omega) (by omega)];omega
def e8s (s:List UInt8):List AV:=s.map e8
theorem qbde (s:List UInt8):(e8s s).all qkh = true:=qbke s
theorem qbls (s:List UInt8):(e8s s).map qtw = s:=qb17 s
theorem q2d {s:List UInt8} {u:Nat} (h:s.length < 20):(qgv s).set (19 - s.length) (.int .u8 ((48 + u % 10:Nat):Int)) = qgv (UInt8.ofNat (48 + u % 10) :: s):=by
 rw [← q78 h]
 congr 2
 rw [UInt8.toNat_ofNat'];omega
theorem q3y {s:List UInt8} {c:UInt8} (h:s.length < 20):List.take (20 - (19 - s.length)) (List.drop (19 - s.length) (qgv (c :: s))) = e8s (c :: s):=by
 have h1:19 - s.length = 20 - (c :: s).length:=by rw [List.length_cons];omega
 rw [h1]
 exact qbb1 (s:=c :: s) (by simp;omega)
theorem qblv {H:List Ent} {n i off len cap:Nat}:co H (.sl n) (.vw i off len cap) = .vw i off len cap:=Eq.trans rfl rfl
attribute [go_sem] qblv
theorem qnj (n:Int):qx Tryz.prog 132 [.int .i64 n] (.str (digI n)):=by
 refine qn c0cn (by simp) (by simp only [go_sem]) rfl fun hw=>?_
 have hn:=q1i hw.1
 have ha:n.natAbs < 18446744073709551616:=by omega
 obtain ⟨hn1,hn2⟩:=qbrt hn
 unfold k0cn
 refine q0i (q1e ?_)
 (refine ev_ ?_;(try with_reducible exact ti_))
 refine q0i (q1e ?_)
 (refine ev_ ?_;(try with_reducible exact ti_))
 refine qb5d (S:=Unit) (fun _=>True) (fun _=>(⟨[(0,.int .i64 n),(3,.int .u64 n.natAbs)],[]⟩,[])) ?_ fun _ _=>?_
 ·repeat' (first | refine vs_ ?_ | ((first | refine vr_ ?_ | (refine cs_ ?_ ?_<;>intro hc) | refine cj_ ?_ | simp (disch:=omega) only [qc,qs])<;>(try refine ev_ ?_)) | with_reducible exact ti_)
  ·refine qb1 () [] trivial rfl (by simp) ?_ ?_ ?_<;>(try rw [hn1 (by assumption)])<;>(try refine ev_ ?_)<;>(try with_reducible exact ti_)<;>(try simp (disch:=omega) only [qs,and_true,true_and])
  ·refine qb1 () [] trivial rfl (by simp) ?_ ?_ ?_<;>(try rw [hn2 (by assumption)])<;>(try refine ev_ ?_)<;>(try with_reducible exact ti_)<;>(try simp (disch:=omega) only [qs,and_true,true_and])
 ·repeat' (first | refine vs_ ?_ | ((first | refine vr_ ?_ | (refine cs_ ?_ ?_<;>intro hc) | refine cj_ ?_ | simp (disch:=omega) only [qc,qs])<;>(try refine ev_ ?_)) | with_reducible exact ti_)
  refine qcm (S:=Nat×List UInt8) (fun x=>digN x.1 ++ x.2 = digN n.natAbs∧x.1 < 18446744073709551616) (fun x=>(⟨[(0,.int .i64 n),(3,.int .u64 x.1),(4,.ptr 0 0),(5,.int .i64 ((20 - x.2.length:Nat):Int))],[]⟩,[.blk (qgv x.2)])) (fun x=>x.1) ?_ fun x hx=>?_
  ·refine qb1 (n.natAbs,[]) [0] ⟨by simp,ha⟩ rfl (by simp) ?_ ?_ ?_<;>(try refine ev_ ?_)<;>(try with_reducible exact ti_)<;>(try simp (disch:=omega) only [qs,and_true,true_and])
   all_goals rfl
  ·obtain ⟨u,s⟩:=x
   obtain ⟨h1,h2⟩:=hx
   dsimp only at h1 h2
   have hl:s.length < 20:=by
    have:=congrArg List.length h1
    rw [List.length_append] at this
    have:=qbee ha
    have:=qbl5 u
    omega
   have h3:=qu0 (Nat.le_of_lt hl)
   have h4:=qu0 (s:=UInt8.ofNat (48 + u % 10) :: s) (by simp;omega)
   have h5:=qbde (UInt8.ofNat (48 + u % 10) :: s)
   have h6:=qbls (UInt8.ofNat (48 + u % 10) :: s)
   have hm:20 - (19 - s.length)≤maxLen:=by unfold maxLen;omega
   have hm2:1 + (s.length + 1)≤maxLen:=by unfold maxLen;omega
   repeat' (first | refine vs_ ?_ | ((first | refine vr_ ?_ | fail)<;>(try simp only [qbpa,qbp5,q5m,qbdl u h2,qcii hl,q2d hl,q3y hl,h3,h4,h5,h6,Nat.zero_add,Nat.mul_one,go_sem,↓reduceIte])) | ((first | (refine cs_ ?_ ?_<;>intro hc) | refine cj_ ?_ | simp (disch:=omega) only [qc,qs])<;>(try refine ev_ ?_)) | with_reducible exact ti_)
   ·rw [digI,if_pos (by assumption),← h1,qjp (u:=u) (by omega),show u % 10 = u by omega];rfl
   ·rw [digI,if_neg (by assumption),← h1,qjp (u:=u) (by omega),show u % 10 = u by omega];rfl
   ·refine qb1 (u / 10,UInt8.ofNat (48 + u % 10) :: s) [0] ⟨⟨by rw [q1s (by omega)];exact h1,by dsimp only;omega⟩,by dsimp only;omega⟩ rfl (by simp) ?_ ?_ ?_<;>(try refine ev_ ?_)<;>(try with_reducible exact ti_)<;>(try simp (disch:=omega) only [qs,and_true,true_and])
    all_goals (rw [show 20 - (s.length + 1) = 19 - s.length by omega])
/-! letters -/
theorem q5y {n:Int} (h:(Lit.int .i64 n).wf = true):(digI n).length≤21:=by
 have hn:=q1i h
 have:=qbee (u:=n.natAbs) (by omega)
 rw [digI]
 split
 ·rw [List.length_cons];omega
 ·omega
theorem qbjr {n:Nat}:digI (n:Int) = digN n:=by rw [digI,if_neg (by omega)];rfl
theorem qbba {z:Int} (h0:-9223372036854775808≤z) (h1:z≤9223372036854775807):IntKind.i64.wrap z = z:=by
 simp [IntKind.wrap,IntKind.signed,IntKind.bits]
 omega
end Go.Proofs.YtlmcofjcpadmiaaGreat
