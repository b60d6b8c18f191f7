/- A text of this proof. -/
import Derived.Test.YtlahgbhhejkgbaaKam
import Derived.Test.YtlahgbhhejkgbaaKan
set_option linter.unusedVariables false
set_option linter.unusedSimpArgs false

/- texts of numbers -/
set_option maxRecDepth 4000
namespace Go.Proofs.Ytlahgbhhejkgbaa
open Go Go.RowKit Go.V

theorem qjd {z:Int} (h0:0≤z) (h1:z≤255):IntKind.u8.wrap z = z:=by
 unfold IntKind.wrap IntKind.signed IntKind.bits
 simp only [Bool.false_and,Bool.false_eq_true,if_false]
 omega
theorem qhz {z:Int} (h0:0≤z) (h1:z < 18446744073709551616):IntKind.u64.wrap z = z:=by
 unfold IntKind.wrap IntKind.signed IntKind.bits
 simp only [Bool.false_and,Bool.false_eq_true,if_false]
 omega
theorem qn3 {z:Int} (h0:z < 0) (h1:-9223372036854775808≤z):IntKind.u64.wrap z = z + 18446744073709551616:=by
 unfold IntKind.wrap IntKind.signed IntKind.bits
 simp only [Bool.false_and,Bool.false_eq_true,if_false]
 omega
theorem qgz {n:Int} (h:(Lit.int .i64 n).wf = true):-9223372036854775808≤n∧n≤9223372036854775807:=by
 simpa [Lit.wf,IntKind.min,IntKind.max,IntKind.signed,IntKind.bits] using h
def absI (n:Int):Int:=n.natAbs
theorem qpz (n:Int):ql Try.prog 104 [.int .i64 n] (.int .u64 (absI n)):=by
 refine qg c0x (by simp) (by simp only [go_sem]) rfl fun hw=>?_
 have hn:=qgz hw.1
 repeat' (first | refine vs_ ?_ | ((first | refine vr_ ?_ | (refine cs_ ?_ ?_<;>intro hc) | refine cj_ ?_ | fail)<;>(try refine ev_ ?_)) | with_reducible exact ti_)
 ·have h1:IntKind.u64.wrap (0 - IntKind.u64.wrap n) = absI n:=by
   rw [qn3 (by omega) hn.1,show (0:Int) - (n + 18446744073709551616) = (-n) - 18446744073709551616 by omega]
   have:IntKind.u64.wrap (-n - 18446744073709551616) = -n:=by
    unfold IntKind.wrap IntKind.signed IntKind.bits
    simp only [Bool.false_and,Bool.false_eq_true,if_false]
    omega
   rw [this,absI];omega
  rw [h1]
 ·have h1:IntKind.u64.wrap n = absI n:=by rw [qhz (by omega) (by omega),absI];omega
  rw [h1]

theorem qk6 {u:Nat} (h:9 < u) (s:List UInt8):digN (u / 10) ++ (UInt8.ofNat (48 + u % 10) :: s) = digN u ++ s:=by
 rw [qe6 (u:=u) (by omega)];simp
theorem qok {u:Nat} (h:u < 18446744073709551616):(digN u).length≤20:=qj7 19 u (by omega)
theorem qyl (u:Nat):(u:Int).tmod 10 = ((u % 10:Nat):Int):=by rw [Int.tmod_eq_emod_of_nonneg (by omega)];omega
theorem qyp (u:Nat):(u:Int).tdiv 10 = ((u / 10:Nat):Int):=by rw [Int.tdiv_eq_ediv_of_nonneg (by omega)];omega
theorem qn4 {u:Nat}:IntKind.u8.wrap (IntKind.u64.wrap (48 + ((u % 10:Nat):Int))) = ((48 + u % 10:Nat):Int):=by
 rw [qhz (by omega) (by omega),qjd (by omega) (by omega)];omega
theorem qs5 {u:Nat} (h:u≤9):IntKind.u8.wrap (IntKind.u64.wrap (48 + (u:Int))) = ((48 + u:Nat):Int):=by
 rw [qhz (by omega) (by omega),qjd (by omega) (by omega)];omega
theorem qsc (u:Nat) (h:u < 18446744073709551616):IntKind.u64.wrap ((u / 10:Nat):Int) = ((u / 10:Nat):Int):=qhz (by omega) (by omega)
attribute [go_sem] qd4 qhf Int.toNat_natCast
theorem qbel {u u':Nat} {s:List UInt8} (h:digN u ++ s = digN u' ) (h':u' < 18446744073709551616):s.length≤20:=by
 have h1:=congrArg List.length h
 rw [List.length_append] at h1
 have:=qok h'
 omega
theorem q6i (n:Int):ql Try.prog 78 [.int .i64 n] (.str (digI n)):=by
 refine qg c0y (by simp) (by simp only [go_sem]) rfl fun hw=>?_
 have hn:=qgz hw.1
 have ha:n.natAbs < 18446744073709551616:=by omega
 repeat' (first | refine vs_ ?_ | ((first | refine vr_ ?_ | refine qa (qpz _) fun _=>?_ | (refine cs_ ?_ ?_<;>intro hc) | refine cj_ ?_ | simp (disch:=omega) only [encs_getN,qd])<;>(try refine ev_ ?_)) | with_reducible exact ti_)
 refine qbf (S:=Nat×List UInt8) (fun x=>digN x.1 ++ x.2 = digN n.natAbs∧x.1 < 18446744073709551616) (fun x=>(⟨[(0,.int .i64 n),(3,.int .u64 x.1),(4,.str x.2)],[]⟩,[])) (fun x=>x.1) ?_ fun x hx=>?_
 ·refine qx (n.natAbs,[]) [] ⟨by simp,ha⟩ rfl (by simp) ?_ ?_ ?_<;>(try refine ev_ ?_)<;>(try with_reducible exact ti_)<;>(try simp (disch:=omega) only [qd,and_true,true_and])
  rfl
 ·obtain ⟨u,s⟩:=x
  obtain ⟨h1,h2⟩:=hx
  dsimp only at h1 h2
  have hl:=qbel h1 ha
  have hm:1 + s.length≤maxLen:=by unfold maxLen;omega
  have hm2:1 + (s.length + 1)≤maxLen:=by unfold maxLen;omega
  repeat' (first | refine vs_ ?_ | ((first | refine vr_ ?_ | fail)<;>(try simp (disch:=first | omega | (simp only [List.length_set,List.length_append,List.length_cons,List.length_nil];done) | (simp only [List.length_set,List.length_append,List.length_cons,List.length_nil];omega)) only [qyl,qyp,qn4,qs5,qsc u h2,go_sem,↓reduceIte])) | ((first | (refine cs_ ?_ ?_<;>intro hc) | refine cj_ ?_ | simp (disch:=omega) only [encs_getN,qd])<;>(try refine ev_ ?_)) | with_reducible exact ti_)
  ·refine qx (u / 10,UInt8.ofNat (48 + u % 10) :: s) [] ⟨⟨by rw [qk6 (by omega)];exact h1,by dsimp only;omega⟩,by dsimp only;omega⟩ rfl (by simp) ?_ ?_ ?_<;>(try refine ev_ ?_)<;>(try with_reducible exact ti_)<;>(try simp (disch:=omega) only [qd,and_true,true_and])
  ·rw [digI,if_pos (by assumption),← h1,qca (by omega)];rfl
  ·rw [digI,if_neg (by assumption),← h1,qca (by omega)];rfl

/-! the program's: an array of 20 bytes, filled from behind -/
def e8 (c:UInt8):AV:=.int .u8 c.toNat
def qcl (s:List UInt8):List AV:=List.replicate (20 - s.length) (.int .u8 0) ++ s.map e8
theorem qjp {s:List UInt8} (h:s.length≤20):(qcl s).length = 20:=by simp [qcl];omega
theorem qqv {s:List UInt8} {c:UInt8} (h:s.length < 20):(qcl s).set (19 - s.length) (.int .u8 c.toNat) = qcl (c :: s):=by
 obtain ⟨k,hk⟩:∃ k,20 - s.length = k + 1:=⟨19 - s.length,by omega⟩
 have h1:19 - s.length = k:=by omega
 have h2:20 - (c :: s).length = k:=by simp;omega
 rw [qcl,qcl,hk,h1,h2,List.replicate_succ',List.append_assoc,List.set_append_right _ _ (by simp)]
 simp [e8]
theorem qum {s:List UInt8} (h:s.length≤20):tk (20 - s.length) (20 - (20 - s.length)) (qcl s) = s.map e8:=by
 rw [tk,qcl,List.drop_append,List.drop_of_length_le (by simp)]
 simp only [List.length_replicate,Nat.sub_self,List.drop_zero,List.nil_append]
 rw [List.take_of_length_le (by simp;omega)]
theorem qwl (s:List UInt8):(s.map e8).all qd4 = true:=by simp [e8,qd4]
theorem qze (s:List UInt8):(s.map e8).map qhf = s:=by
 rw [List.map_map]
 refine (List.map_congr_left fun c _=>?_).trans (List.map_id s)
 simp [e8,qhf]
theorem qjm {k:Nat} {s:List UInt8}:AV.bds k (qcl s) = true:=by
 rw [qcl,qlq];simp [e8,AV.bd]
theorem qqn {σ:Nat->Nat} {s:List UInt8}:AV.rens σ (qcl s) = qcl s:=qp (m:=0) (fun i hi=>by omega) _ qjm
attribute [go_sem] qjm qqn
theorem q7x {k:Nat} (h:k < 20):IntKind.i64.wrap (((20 - k:Nat):Int) - 1) = ((19 - k:Nat):Int):=by
 have h1:((20 - k:Nat):Int) - 1 = ((19 - k:Nat):Int):=by omega
 rw [h1]
 exact qkb (by omega) (by unfold maxLen;omega)
theorem qzs {n:Int} (hn:-9223372036854775808≤n∧n≤9223372036854775807):(n < 0->IntKind.u64.wrap (0 - IntKind.u64.wrap n) = n.natAbs)∧(¬ n < 0->IntKind.u64.wrap n = n.natAbs):=by
 refine ⟨fun h=>?_,fun h=>?_⟩
 ·rw [qn3 (by omega) hn.1,show (0:Int) - (n + 18446744073709551616) = (-n) - 18446744073709551616 by omega]
  have:IntKind.u64.wrap (-n - 18446744073709551616) = -n:=by
   unfold IntKind.wrap IntKind.signed IntKind.bits
   simp only [Bool.false_and,Bool.false_eq_true,if_false]
   omega
  rw [this];omega
 ·rw [qhz (by omega) (by omega)];omega
def e8s (s:List UInt8):List AV:=s.map e8
theorem qq3 (s:List UInt8):(e8s s).all qd4 = true:=qwl s
theorem qvt (s:List UInt8):(e8s s).map qhf = s:=qze s
theorem qne {s:List UInt8} {u:Nat} (h:s.length < 20):(qcl s).set (19 - s.length) (.int .u8 ((48 + u % 10:Nat):Int)) = qcl (UInt8.ofNat (48 + u % 10) :: s):=by
 rw [← qqv h]
 congr 2
 rw [UInt8.toNat_ofNat'];omega
theorem qm1 {s:List UInt8} {c:UInt8} (h:s.length < 20):List.take (20 - (19 - s.length)) (List.drop (19 - s.length) (qcl (c :: s))) = e8s (c :: s):=by
 have h1:19 - s.length = 20 - (c :: s).length:=by rw [List.length_cons];omega
 rw [h1]
 exact qum (s:=c :: s) (by simp;omega)
theorem qwb {H:List Ent} {n i off len cap:Nat}:co H (.sl n) (.vw i off len cap) = .vw i off len cap:=Eq.trans rfl rfl
attribute [go_sem] qwb
theorem qff (n:Int):ql Try.prog 94 [.int .i64 n] (.str (digI n)):=by
 refine qg c0z (by simp) (by simp only [go_sem]) rfl fun hw=>?_
 have hn:=qgz hw.1
 have ha:n.natAbs < 18446744073709551616:=by omega
 obtain ⟨hn1,hn2⟩:=qzs hn
 unfold k0z
 refine qb8 (qfl ?_)
 (refine ev_ ?_;(try with_reducible exact ti_))
 refine qb8 (qfl ?_)
 (refine ev_ ?_;(try with_reducible exact ti_))
 refine qni (S:=Unit) (fun _=>True) (fun _=>(⟨[(0,.int .i64 n),(3,.int .u64 n.natAbs)],[]⟩,[])) ?_ fun _ _=>?_
 ·repeat' (first | refine vs_ ?_ | ((first | refine vr_ ?_ | (refine cs_ ?_ ?_<;>intro hc) | refine cj_ ?_ | simp (disch:=omega) only [encs_getN,qd])<;>(try refine ev_ ?_)) | with_reducible exact ti_)
  ·refine qx () [] trivial rfl (by simp) ?_ ?_ ?_<;>(try rw [hn1 (by assumption)])<;>(try refine ev_ ?_)<;>(try with_reducible exact ti_)<;>(try simp (disch:=omega) only [qd,and_true,true_and])
  ·refine qx () [] trivial rfl (by simp) ?_ ?_ ?_<;>(try rw [hn2 (by assumption)])<;>(try refine ev_ ?_)<;>(try with_reducible exact ti_)<;>(try simp (disch:=omega) only [qd,and_true,true_and])
 ·repeat' (first | refine vs_ ?_ | ((first | refine vr_ ?_ | (refine cs_ ?_ ?_<;>intro hc) | refine cj_ ?_ | simp (disch:=omega) only [encs_getN,qd])<;>(try refine ev_ ?_)) | with_reducible exact ti_)
  refine qbf (S:=Nat×List UInt8) (fun x=>digN x.1 ++ x.2 = digN n.natAbs∧x.1 < 18446744073709551616) (fun x=>(⟨[(0,.int .i64 n),(3,.int .u64 x.1),(4,.ptr 0 0),(5,.int .i64 ((20 - x.2.length:Nat):Int))],[]⟩,[.blk (qcl x.2)])) (fun x=>x.1) ?_ fun x hx=>?_
  ·refine qx (n.natAbs,[]) [0] ⟨by simp,ha⟩ rfl (by simp) ?_ ?_ ?_<;>(try refine ev_ ?_)<;>(try with_reducible exact ti_)<;>(try simp (disch:=omega) only [qd,and_true,true_and])
   all_goals rfl
  ·obtain ⟨u,s⟩:=x
   obtain ⟨h1,h2⟩:=hx
   dsimp only at h1 h2
   have hl:s.length < 20:=by
    have:=congrArg List.length h1
    rw [List.length_append] at this
    have:=qok ha
    have:=qgt u
    omega
   have h3:=qjp (Nat.le_of_lt hl)
   have h4:=qjp (s:=UInt8.ofNat (48 + u % 10) :: s) (by simp;omega)
   have h5:=qq3 (UInt8.ofNat (48 + u % 10) :: s)
   have h6:=qvt (UInt8.ofNat (48 + u % 10) :: s)
   have hm:20 - (19 - s.length)≤maxLen:=by unfold maxLen;omega
   have hm2:1 + (s.length + 1)≤maxLen:=by unfold maxLen;omega
   repeat' (first | refine vs_ ?_ | ((first | refine vr_ ?_ | fail)<;>(try simp only [qyl,qyp,qn4,qsc u h2,q7x hl,qne hl,qm1 hl,h3,h4,h5,h6,Nat.zero_add,Nat.mul_one,go_sem,↓reduceIte])) | ((first | (refine cs_ ?_ ?_<;>intro hc) | refine cj_ ?_ | simp (disch:=omega) only [encs_getN,qd])<;>(try refine ev_ ?_)) | with_reducible exact ti_)
   ·rw [digI,if_pos (by assumption),← h1,qca (u:=u) (by omega),show u % 10 = u by omega];rfl
   ·rw [digI,if_neg (by assumption),← h1,qca (u:=u) (by omega),show u % 10 = u by omega];rfl
   ·refine qx (u / 10,UInt8.ofNat (48 + u % 10) :: s) [0] ⟨⟨by rw [qk6 (by omega)];exact h1,by dsimp only;omega⟩,by dsimp only;omega⟩ rfl (by simp) ?_ ?_ ?_<;>(try refine ev_ ?_)<;>(try with_reducible exact ti_)<;>(try simp (disch:=omega) only [qd,and_true,true_and])
    all_goals (rw [show 20 - (s.length + 1) = 19 - s.length by omega])
/-! letters -/
theorem qxi {n:Int} (h:(Lit.int .i64 n).wf = true):(digI n).length≤21:=by
 have hn:=qgz h
 have:=qok (u:=n.natAbs) (by omega)
 rw [digI]
 split
 ·rw [List.length_cons];omega
 ·omega
theorem qwu {n:Nat}:digI (n:Int) = digN n:=by rw [digI,if_neg (by omega)];rfl
theorem qbca {n:Int} (h:0≤n):n.tmod 26 = ((n.toNat % 26:Nat):Int):=by rw [Int.tmod_eq_emod_of_nonneg h];omega
theorem q68 {n:Int} (h:0≤n):n.tdiv 26 = ((n.toNat / 26:Nat):Int):=by rw [Int.tdiv_eq_ediv_of_nonneg h];omega
theorem qw7 {u:Nat}:IntKind.u8.wrap (IntKind.i64.wrap (97 + ((u % 26:Nat):Int))) = ((97 + u % 26:Nat):Int):=by
 rw [qkb (by omega) (by unfold maxLen;omega),qjd (by omega) (by omega)];omega
theorem qv {z:Int} (h0:-9223372036854775808≤z) (h1:z≤9223372036854775807):IntKind.i64.wrap z = z:=by
 simp [IntKind.wrap,IntKind.signed,IntKind.bits]
 omega
theorem qgh (n:Int):ql Try.prog 106 [.int .i64 n] (.str (ltrI n)):=by
 refine qg c0ba (by simp) (by simp only [go_sem]) rfl fun hw=>?_
 have hn:=qgz hw.1
 by_cases h0:n < 0
 ·repeat' (first | refine vs_ ?_ | ((first | refine vr_ ?_ | (refine cs_ ?_ ?_<;>intro hc) | refine cj_ ?_ | simp (disch:=omega) only [encs_getN,qd])<;>(try refine ev_ ?_)) | with_reducible exact ti_)
  all_goals first | (rw [ltrI,if_pos (by assumption)];done) | omega
 ·have h1:=qbca (n:=n) (by omega)
  have h2:=q68 (n:=n) (by omega)
  have h3:IntKind.i64.wrap ((n.toNat / 26:Nat):Int) = ((n.toNat / 26:Nat):Int):=qv (by omega) (by omega)
  have h4:=qwu (n:=n.toNat / 26)
  have h5:=qok (u:=n.toNat / 26) (by omega)
  have h6:1 + (digN (n.toNat / 26)).length≤maxLen:=by unfold maxLen;omega
  repeat' (first | refine vs_ ?_ | ((first | refine vr_ ?_ | fail)<;>(try simp only [h0,h1,h2,h3,h4,qw7,go_sem,↓reduceIte])) | ((first | (refine cs_ ?_ ?_<;>intro hc) | refine cj_ ?_ | simp (disch:=omega) only [encs_getN,qd] | refine qa (qff _) fun _=>?_)<;>(try refine ev_ ?_)) | with_reducible exact ti_)
  ·rw [ltrI,if_neg h0,if_pos (by assumption),show n.toNat % 26 = n.toNat by omega]
  ·rw [ltrI,if_neg h0,if_neg (by assumption)]
end Go.Proofs.Ytlahgbhhejkgbaa
