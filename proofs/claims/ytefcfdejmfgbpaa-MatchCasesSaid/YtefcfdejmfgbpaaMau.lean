/- A text of this proof. -/
import Derived.Test.YtefcfdejmfgbpaaMat
import Derived.Test.YtefcfdejmfgbpaaMaq
set_option linter.unusedVariables false
set_option linter.unusedSimpArgs false

/- texts of numbers -/
set_option maxRecDepth 4000
namespace Go.Proofs.Ytefcfdejmfgbpaa
open Go Go.RowKit Go.V

theorem qp9 {z:Int} (h0:0≤z) (h1:z≤255):IntKind.u8.wrap z = z:=by
 unfold IntKind.wrap IntKind.signed IntKind.bits
 simp only [Bool.false_and,Bool.false_eq_true,if_false]
 omega
theorem qkx {z:Int} (h0:0≤z) (h1:z < 18446744073709551616):IntKind.u64.wrap z = z:=by
 unfold IntKind.wrap IntKind.signed IntKind.bits
 simp only [Bool.false_and,Bool.false_eq_true,if_false]
 omega
theorem qwq {z:Int} (h0:z < 0) (h1:-9223372036854775808≤z):IntKind.u64.wrap z = z + 18446744073709551616:=by
 unfold IntKind.wrap IntKind.signed IntKind.bits
 simp only [Bool.false_and,Bool.false_eq_true,if_false]
 omega
theorem qmi {n:Int} (h:(Lit.int .i64 n).wf = true):-9223372036854775808≤n∧n≤9223372036854775807:=by
 simpa [Lit.wf,IntKind.min,IntKind.max,IntKind.signed,IntKind.bits] using h
theorem qtc {u:Nat} (h:9 < u) (s:List UInt8):digN (u / 10) ++ (UInt8.ofNat (48 + u % 10) :: s) = digN u ++ s:=by
 rw [qoh (u:=u) (by omega)];simp
theorem qse {u:Nat} (h:u < 18446744073709551616):(digN u).length≤20:=qox 19 u (by omega)
theorem q9f (u:Nat):(u:Int).tmod 10 = ((u % 10:Nat):Int):=by rw [Int.tmod_eq_emod_of_nonneg (by omega)];omega
theorem q89 (u:Nat):(u:Int).tdiv 10 = ((u / 10:Nat):Int):=by rw [Int.tdiv_eq_ediv_of_nonneg (by omega)];omega
theorem qw9 {u:Nat}:IntKind.u8.wrap (IntKind.u64.wrap (48 + ((u % 10:Nat):Int))) = ((48 + u % 10:Nat):Int):=by
 rw [qkx (by omega) (by omega),qp9 (by omega) (by omega)];omega
theorem q1a (u:Nat) (h:u < 18446744073709551616):IntKind.u64.wrap ((u / 10:Nat):Int) = ((u / 10:Nat):Int):=qkx (by omega) (by omega)
attribute [go_sem] qdl qim Int.toNat_natCast
/-! the program's: an array of 20 bytes, filled from behind -/
def e8 (c:UInt8):AV:=.int .u8 c.toNat
def qcg (s:List UInt8):List AV:=List.replicate (20 - s.length) (.int .u8 0) ++ s.map e8
theorem qjc {s:List UInt8} (h:s.length≤20):(qcg s).length = 20:=by simp [qcg];omega
theorem qqo {s:List UInt8} {c:UInt8} (h:s.length < 20):(qcg s).set (19 - s.length) (.int .u8 c.toNat) = qcg (c :: s):=by
 obtain ⟨k,hk⟩:∃ k,20 - s.length = k + 1:=⟨19 - s.length,by omega⟩
 have h1:19 - s.length = k:=by omega
 have h2:20 - (c :: s).length = k:=by simp;omega
 rw [qcg,qcg,hk,h1,h2,List.replicate_succ',List.append_assoc,List.set_append_right _ _ (by simp)]
 simp [e8]
theorem qr4 {s:List UInt8} (h:s.length≤20):tk (20 - s.length) (20 - (20 - s.length)) (qcg s) = s.map e8:=by
 rw [tk,qcg,List.drop_append,List.drop_of_length_le (by simp)]
 simp only [List.length_replicate,Nat.sub_self,List.drop_zero,List.nil_append]
 rw [List.take_of_length_le (by simp;omega)]
theorem qwp (s:List UInt8):(s.map e8).all qdl = true:=by simp [e8,qdl]
theorem q4h (s:List UInt8):(s.map e8).map qim = s:=by
 rw [List.map_map]
 refine (List.map_congr_left fun c _=>?_).trans (List.map_id s)
 simp [e8,qim]
theorem qj1 {k:Nat} {s:List UInt8}:AV.bds k (qcg s) = true:=by
 rw [qcg,qek];simp [e8,AV.bd]
theorem qrq {σ:Nat->Nat} {s:List UInt8}:AV.rens σ (qcg s) = qcg s:=qm (m:=0) (fun i hi=>by omega) _ qj1
attribute [go_sem] qj1 qrq
theorem qbfd {k:Nat} (h:k < 20):IntKind.i64.wrap (((20 - k:Nat):Int) - 1) = ((19 - k:Nat):Int):=by
 have h1:((20 - k:Nat):Int) - 1 = ((19 - k:Nat):Int):=by omega
 rw [h1]
 exact qko (by omega) (by unfold maxLen;omega)
theorem q7t {n:Int} (hn:-9223372036854775808≤n∧n≤9223372036854775807):(n < 0->IntKind.u64.wrap (0 - IntKind.u64.wrap n) = n.natAbs)∧(¬ n < 0->IntKind.u64.wrap n = n.natAbs):=by
 refine ⟨fun h=>?_,fun h=>?_⟩
 ·rw [qwq (by omega) hn.1,show (0:Int) - (n + 18446744073709551616) = (-n) - 18446744073709551616 by omega]
  have:IntKind.u64.wrap (-n - 18446744073709551616) = -n:=by
   unfold IntKind.wrap IntKind.signed IntKind.bits
   simp only [Bool.false_and,Bool.false_eq_true,if_false]
   omega
  rw [this];omega
 ·rw [qkx (by omega) (by omega)];omega
def e8s (s:List UInt8):List AV:=s.map e8
theorem qvk (s:List UInt8):(e8s s).all qdl = true:=qwp s
theorem qzt (s:List UInt8):(e8s s).map qim = s:=q4h s
theorem qn9 {s:List UInt8} {u:Nat} (h:s.length < 20):(qcg s).set (19 - s.length) (.int .u8 ((48 + u % 10:Nat):Int)) = qcg (UInt8.ofNat (48 + u % 10) :: s):=by
 rw [← qqo h]
 congr 2
 rw [UInt8.toNat_ofNat'];omega
theorem qop {s:List UInt8} {c:UInt8} (h:s.length < 20):List.take (20 - (19 - s.length)) (List.drop (19 - s.length) (qcg (c :: s))) = e8s (c :: s):=by
 have h1:19 - s.length = 20 - (c :: s).length:=by rw [List.length_cons];omega
 rw [h1]
 exact qr4 (s:=c :: s) (by simp;omega)
theorem qxv {H:List Ent} {n i off len cap:Nat}:co H (.sl n) (.vw i off len cap) = .vw i off len cap:=Eq.trans rfl rfl
attribute [go_sem] qxv
theorem qey (n:Int):qo Try.prog 53 [.int .i64 n] (.str (digI n)):=by
 refine qj c0br (by simp) (by simp only [go_sem]) rfl fun hw=>?_
 have hn:=qmi hw.1
 have ha:n.natAbs < 18446744073709551616:=by omega
 obtain ⟨hn1,hn2⟩:=q7t hn
 unfold k0br
 refine qb1 (qem ?_)
 (refine ev_ ?_;(try with_reducible exact ti_))
 refine qb1 (qem ?_)
 (refine ev_ ?_;(try with_reducible exact ti_))
 refine qc1 (S:=Unit) (fun _=>True) (fun _=>(⟨[(0,.int .i64 n),(3,.int .u64 n.natAbs)],[]⟩,[])) ?_ fun _ _=>?_
 ·repeat' (first | refine vs_ ?_ | ((first | refine vr_ ?_ | (refine cs_ ?_ ?_<;>intro hc) | refine cj_ ?_ | simp (disch:=omega) only [encs_getN,qc])<;>(try refine ev_ ?_)) | with_reducible exact ti_)
  ·refine qu () [] trivial rfl (by simp) ?_ ?_ ?_<;>(try rw [hn1 (by assumption)])<;>(try refine ev_ ?_)<;>(try with_reducible exact ti_)<;>(try simp (disch:=omega) only [qc,and_true,true_and])
  ·refine qu () [] trivial rfl (by simp) ?_ ?_ ?_<;>(try rw [hn2 (by assumption)])<;>(try refine ev_ ?_)<;>(try with_reducible exact ti_)<;>(try simp (disch:=omega) only [qc,and_true,true_and])
 ·repeat' (first | refine vs_ ?_ | ((first | refine vr_ ?_ | (refine cs_ ?_ ?_<;>intro hc) | refine cj_ ?_ | simp (disch:=omega) only [encs_getN,qc])<;>(try refine ev_ ?_)) | with_reducible exact ti_)
  refine qbi (S:=Nat×List UInt8) (fun x=>digN x.1 ++ x.2 = digN n.natAbs∧x.1 < 18446744073709551616) (fun x=>(⟨[(0,.int .i64 n),(3,.int .u64 x.1),(4,.ptr 0 0),(5,.int .i64 ((20 - x.2.length:Nat):Int))],[]⟩,[.blk (qcg x.2)])) (fun x=>x.1) ?_ fun x hx=>?_
  ·refine qu (n.natAbs,[]) [0] ⟨by simp,ha⟩ rfl (by simp) ?_ ?_ ?_<;>(try refine ev_ ?_)<;>(try with_reducible exact ti_)<;>(try simp (disch:=omega) only [qc,and_true,true_and])
   all_goals rfl
  ·obtain ⟨u,s⟩:=x
   obtain ⟨h1,h2⟩:=hx
   dsimp only at h1 h2
   have hl:s.length < 20:=by
    have:=congrArg List.length h1
    rw [List.length_append] at this
    have:=qse ha
    have:=qwa u
    omega
   have h3:=qjc (Nat.le_of_lt hl)
   have h4:=qjc (s:=UInt8.ofNat (48 + u % 10) :: s) (by simp;omega)
   have h5:=qvk (UInt8.ofNat (48 + u % 10) :: s)
   have h6:=qzt (UInt8.ofNat (48 + u % 10) :: s)
   have hm:20 - (19 - s.length)≤maxLen:=by unfold maxLen;omega
   have hm2:1 + (s.length + 1)≤maxLen:=by unfold maxLen;omega
   repeat' (first | refine vs_ ?_ | ((first | refine vr_ ?_ | fail)<;>(try simp only [q9f,q89,qw9,q1a u h2,qbfd hl,qn9 hl,qop hl,h3,h4,h5,h6,Nat.zero_add,Nat.mul_one,go_sem,↓reduceIte])) | ((first | (refine cs_ ?_ ?_<;>intro hc) | refine cj_ ?_ | simp (disch:=omega) only [encs_getN,qc])<;>(try refine ev_ ?_)) | with_reducible exact ti_)
   ·rw [digI,if_pos (by assumption),← h1,qh0 (u:=u) (by omega),show u % 10 = u by omega];rfl
   ·rw [digI,if_neg (by assumption),← h1,qh0 (u:=u) (by omega),show u % 10 = u by omega];rfl
   ·refine qu (u / 10,UInt8.ofNat (48 + u % 10) :: s) [0] ⟨⟨by rw [qtc (by omega)];exact h1,by dsimp only;omega⟩,by dsimp only;omega⟩ rfl (by simp) ?_ ?_ ?_<;>(try refine ev_ ?_)<;>(try with_reducible exact ti_)<;>(try simp (disch:=omega) only [qc,and_true,true_and])
    all_goals (rw [show 20 - (s.length + 1) = 19 - s.length by omega])
/-! letters -/
theorem qx6 {n:Int} (h:(Lit.int .i64 n).wf = true):(digI n).length≤21:=by
 have hn:=qmi h
 have:=qse (u:=n.natAbs) (by omega)
 rw [digI]
 split
 ·rw [List.length_cons];omega
 ·omega
theorem qv4 {n:Nat}:digI (n:Int) = digN n:=by rw [digI,if_neg (by omega)];rfl
theorem qbcd {n:Int} (h:0≤n):n.tmod 26 = ((n.toNat % 26:Nat):Int):=by rw [Int.tmod_eq_emod_of_nonneg h];omega
theorem qbcr {n:Int} (h:0≤n):n.tdiv 26 = ((n.toNat / 26:Nat):Int):=by rw [Int.tdiv_eq_ediv_of_nonneg h];omega
theorem qzx {u:Nat}:IntKind.u8.wrap (IntKind.i64.wrap (97 + ((u % 26:Nat):Int))) = ((97 + u % 26:Nat):Int):=by
 rw [qko (by omega) (by unfold maxLen;omega),qp9 (by omega) (by omega)];omega
theorem qw {z:Int} (h0:-9223372036854775808≤z) (h1:z≤9223372036854775807):IntKind.i64.wrap z = z:=by
 simp [IntKind.wrap,IntKind.signed,IntKind.bits]
 omega
theorem qgf (n:Int):qo Try.prog 71 [.int .i64 n] (.str (ltrI n)):=by
 refine qj c0bs (by simp) (by simp only [go_sem]) rfl fun hw=>?_
 have hn:=qmi hw.1
 by_cases h0:n < 0
 ·repeat' (first | refine vs_ ?_ | ((first | refine vr_ ?_ | (refine cs_ ?_ ?_<;>intro hc) | refine cj_ ?_ | simp (disch:=omega) only [encs_getN,qc])<;>(try refine ev_ ?_)) | with_reducible exact ti_)
  all_goals first | (rw [ltrI,if_pos (by assumption)];done) | omega
 ·have h1:=qbcd (n:=n) (by omega)
  have h2:=qbcr (n:=n) (by omega)
  have h3:IntKind.i64.wrap ((n.toNat / 26:Nat):Int) = ((n.toNat / 26:Nat):Int):=qw (by omega) (by omega)
  have h4:=qv4 (n:=n.toNat / 26)
  have h5:=qse (u:=n.toNat / 26) (by omega)
  have h6:1 + (digN (n.toNat / 26)).length≤maxLen:=by unfold maxLen;omega
  repeat' (first | refine vs_ ?_ | ((first | refine vr_ ?_ | fail)<;>(try simp only [h0,h1,h2,h3,h4,qzx,go_sem,↓reduceIte])) | ((first | (refine cs_ ?_ ?_<;>intro hc) | refine cj_ ?_ | simp (disch:=omega) only [encs_getN,qc] | refine qa (qey _) fun _=>?_)<;>(try refine ev_ ?_)) | with_reducible exact ti_)
  ·rw [ltrI,if_neg h0,if_pos (by assumption),show n.toNat % 26 = n.toNat by omega]
  ·rw [ltrI,if_neg h0,if_neg (by assumption)]
end Go.Proofs.Ytefcfdejmfgbpaa
