/- A text of this proof. -/
import Derived.Test.YtlmcofjcpadmiaaGreatDap
import Derived.Test.YtlmcofjcpadmiaaGreatDaq
set_option linter.unusedVariables false
set_option linter.unusedSimpArgs false

/- texts of numbers -/
set_option maxRecDepth 4000
namespace Go.Proofs.YtlmcofjcpadmiaaGreat
open Go Go.RowKit Go.V

theorem qbhl {z:Int} (h0:0≤z) (h1:z≤255):IntKind.u8.wrap z = z:=by
 unfold IntKind.wrap IntKind.signed IntKind.bits
 simp only [Bool.false_and,Bool.false_eq_true,if_false]
 omega
theorem qoa {z:Int} (h0:0≤z) (h1:z < 18446744073709551616):IntKind.u64.wrap z = z:=by
 unfold IntKind.wrap IntKind.signed IntKind.bits
 simp only [Bool.false_and,Bool.false_eq_true,if_false]
 omega
theorem qyy {z:Int} (h0:z < 0) (h1:-9223372036854775808≤z):IntKind.u64.wrap z = z + 18446744073709551616:=by
 unfold IntKind.wrap IntKind.signed IntKind.bits
 simp only [Bool.false_and,Bool.false_eq_true,if_false]
 omega
theorem qv5 {n:Int} (h:(Lit.int .i64 n).wf = true):-9223372036854775808≤n∧n≤9223372036854775807:=by
 simpa [Lit.wf,IntKind.min,IntKind.max,IntKind.signed,IntKind.bits] using h
def absI (n:Int):Int:=n.natAbs
theorem q1o (n:Int):qq Tryz.prog 124 [.int .i64 n] (.int .u64 (absI n)):=by
 refine qg c0cm (by simp) (by simp only [go_sem]) rfl fun hw=>?_
 have hn:=qv5 hw.1
 repeat' (first | refine vs_ ?_ | ((first | refine vr_ ?_ | (refine cs_ ?_ ?_<;>intro hc) | refine cj_ ?_ | fail)<;>(try refine ev_ ?_)) | with_reducible exact ti_)
 ·have h1:IntKind.u64.wrap (0 - IntKind.u64.wrap n) = absI n:=by
   rw [qyy (by omega) hn.1,show (0:Int) - (n + 18446744073709551616) = (-n) - 18446744073709551616 by omega]
   have:IntKind.u64.wrap (-n - 18446744073709551616) = -n:=by
    unfold IntKind.wrap IntKind.signed IntKind.bits
    simp only [Bool.false_and,Bool.false_eq_true,if_false]
    omega
   rw [this,absI];omega
  rw [h1]
 ·have h1:IntKind.u64.wrap n = absI n:=by rw [qoa (by omega) (by omega),absI];omega
  rw [h1]

theorem qwb {u:Nat} (h:9 < u) (s:List UInt8):digN (u / 10) ++ (UInt8.ofNat (48 + u % 10) :: s) = digN u ++ s:=by
 rw [qok (u:=u) (by omega)];simp
theorem q35 {u:Nat} (h:u < 18446744073709551616):(digN u).length≤20:=qy4 19 u (by omega)
theorem qbip (u:Nat):(u:Int).tmod 10 = ((u % 10:Nat):Int):=by rw [Int.tmod_eq_emod_of_nonneg (by omega)];omega
theorem qbib (u:Nat):(u:Int).tdiv 10 = ((u / 10:Nat):Int):=by rw [Int.tdiv_eq_ediv_of_nonneg (by omega)];omega
theorem q0b {u:Nat}:IntKind.u8.wrap (IntKind.u64.wrap (48 + ((u % 10:Nat):Int))) = ((48 + u % 10:Nat):Int):=by
 rw [qoa (by omega) (by omega),qbhl (by omega) (by omega)];omega
theorem q7e {u:Nat} (h:u≤9):IntKind.u8.wrap (IntKind.u64.wrap (48 + (u:Int))) = ((48 + u:Nat):Int):=by
 rw [qoa (by omega) (by omega),qbhl (by omega) (by omega)];omega
theorem q5u (u:Nat) (h:u < 18446744073709551616):IntKind.u64.wrap ((u / 10:Nat):Int) = ((u / 10:Nat):Int):=qoa (by omega) (by omega)
attribute [go_sem] qic qoj Int.toNat_natCast
theorem qcdr {u u':Nat} {s:List UInt8} (h:digN u ++ s = digN u' ) (h':u' < 18446744073709551616):s.length≤20:=by
 have h1:=congrArg List.length h
 rw [List.length_append] at h1
 have:=q35 h'
 omega
theorem qb6k (n:Int):qq Tryz.prog 78 [.int .i64 n] (.str (digI n)):=by
 refine qg c0cn (by simp) (by simp only [go_sem]) rfl fun hw=>?_
 have hn:=qv5 hw.1
 have ha:n.natAbs < 18446744073709551616:=by omega
 repeat' (first | refine vs_ ?_ | ((first | refine vr_ ?_ | refine qa (q1o _) fun _=>?_ | (refine cs_ ?_ ?_<;>intro hc) | refine cj_ ?_ | simp (disch:=omega) only [qb,qm])<;>(try refine ev_ ?_)) | with_reducible exact ti_)
 refine qcc (S:=Nat×List UInt8) (fun x=>digN x.1 ++ x.2 = digN n.natAbs∧x.1 < 18446744073709551616) (fun x=>(⟨[(0,.int .i64 n),(3,.int .u64 x.1),(4,.str x.2)],[]⟩,[])) (fun x=>x.1) ?_ fun x hx=>?_
 ·refine qbl (n.natAbs,[]) [] ⟨by simp,ha⟩ rfl (by simp) ?_ ?_ ?_<;>(try refine ev_ ?_)<;>(try with_reducible exact ti_)<;>(try simp (disch:=omega) only [qm,and_true,true_and])
  rfl
 ·obtain ⟨u,s⟩:=x
  obtain ⟨h1,h2⟩:=hx
  dsimp only at h1 h2
  have hl:=qcdr h1 ha
  have hm:1 + s.length≤maxLen:=by unfold maxLen;omega
  have hm2:1 + (s.length + 1)≤maxLen:=by unfold maxLen;omega
  repeat' (first | refine vs_ ?_ | ((first | refine vr_ ?_ | fail)<;>(try simp (disch:=first | omega | (simp only [List.length_set,List.length_append,List.length_cons,List.length_nil];done) | (simp only [List.length_set,List.length_append,List.length_cons,List.length_nil];omega)) only [qbip,qbib,q0b,q7e,q5u u h2,go_sem,↓reduceIte])) | ((first | (refine cs_ ?_ ?_<;>intro hc) | refine cj_ ?_ | simp (disch:=omega) only [qb,qm])<;>(try refine ev_ ?_)) | with_reducible exact ti_)
  ·refine qbl (u / 10,UInt8.ofNat (48 + u % 10) :: s) [] ⟨⟨by rw [qwb (by omega)];exact h1,by dsimp only;omega⟩,by dsimp only;omega⟩ rfl (by simp) ?_ ?_ ?_<;>(try refine ev_ ?_)<;>(try with_reducible exact ti_)<;>(try simp (disch:=omega) only [qm,and_true,true_and])
  ·rw [digI,if_pos (by assumption),← h1,qhx (by omega)];rfl
  ·rw [digI,if_neg (by assumption),← h1,qhx (by omega)];rfl

/-! the program's: an array of 20 bytes, filled from behind -/
def e8 (c:UInt8):AV:=.int .u8 c.toNat
def qfo (s:List UInt8):List AV:=List.replicate (20 - s.length) (.int .u8 0) ++ s.map e8
theorem qr5 {s:List UInt8} (h:s.length≤20):(qfo s).length = 20:=by simp [qfo];omega
theorem q08 {s:List UInt8} {c:UInt8} (h:s.length < 20):(qfo s).set (19 - s.length) (.int .u8 c.toNat) = qfo (c :: s):=by
 obtain ⟨k,hk⟩:∃ k,20 - s.length = k + 1:=⟨19 - s.length,by omega⟩
 have h1:19 - s.length = k:=by omega
 have h2:20 - (c :: s).length = k:=by simp;omega
 rw [qfo,qfo,hk,h1,h2,List.replicate_succ',List.append_assoc,List.set_append_right _ _ (by simp)]
 simp [e8]
theorem q7b {s:List UInt8} (h:s.length≤20):tk (20 - s.length) (20 - (20 - s.length)) (qfo s) = s.map e8:=by
 rw [tk,qfo,List.drop_append,List.drop_of_length_le (by simp)]
 simp only [List.length_replicate,Nat.sub_self,List.drop_zero,List.nil_append]
 rw [List.take_of_length_le (by simp;omega)]
theorem qbbe (s:List UInt8):(s.map e8).all qic = true:=by simp [e8,qic]
theorem qbvz (s:List UInt8):(s.map e8).map qoj = s:=by
 rw [List.map_map]
 refine (List.map_congr_left fun c _=>?_).trans (List.map_id s)
 simp [e8,qoj]
theorem qrd {k:Nat} {s:List UInt8}:AV.bds k (qfo s) = true:=by
 rw [qfo,qn8];simp [e8,AV.bd]
theorem q0v {σ:Nat->Nat} {s:List UInt8}:AV.rens σ (qfo s) = qfo s:=qbw (m:=0) (fun i hi=>by omega) _ qrd
attribute [go_sem] qrd q0v
theorem qca8 {k:Nat} (h:k < 20):IntKind.i64.wrap (((20 - k:Nat):Int) - 1) = ((19 - k:Nat):Int):=by
 have h1:((20 - k:Nat):Int) - 1 = ((19 - k:Nat):Int):=by omega
 rw [h1]
 exact qgz (by omega) (by unfold maxLen;omega)
theorem qbk6 {n:Int} (hn:-9223372036854775808≤n∧n≤9223372036854775807):(n < 0->IntKind.u64.wrap (0 - IntKind.u64.wrap n) = n.natAbs)∧(¬ n < 0->IntKind.u64.wrap n = n.natAbs):=by
 refine ⟨fun h=>?_,fun h=>?_⟩
 ·rw [qyy (by omega) hn.1,show (0:Int) - (n + 18446744073709551616) = (-n) - 18446744073709551616 by omega]
  have:IntKind.u64.wrap (-n - 18446744073709551616) = -n:=by
   unfold IntKind.wrap IntKind.signed IntKind.bits
   simp only [Bool.false_and,Bool.false_eq_true,if_false]
   omega
  rw [this];omega
 ·rw [qoa (by omega) (by omega)];omega
def e8s (s:List UInt8):List AV:=s.map e8
theorem q4s (s:List UInt8):(e8s s).all qic = true:=qbbe s
theorem q9y (s:List UInt8):(e8s s).map qoj = s:=qbvz s
theorem qwy {s:List UInt8} {u:Nat} (h:s.length < 20):(qfo s).set (19 - s.length) (.int .u8 ((48 + u % 10:Nat):Int)) = qfo (UInt8.ofNat (48 + u % 10) :: s):=by
 rw [← q08 h]
 congr 2
 rw [UInt8.toNat_ofNat'];omega
theorem qyn {s:List UInt8} {c:UInt8} (h:s.length < 20):List.take (20 - (19 - s.length)) (List.drop (19 - s.length) (qfo (c :: s))) = e8s (c :: s):=by
 have h1:19 - s.length = 20 - (c :: s).length:=by rw [List.length_cons];omega
 rw [h1]
 exact q7b (s:=c :: s) (by simp;omega)
theorem q9x {H:List Ent} {n i off len cap:Nat}:co H (.sl n) (.vw i off len cap) = .vw i off len cap:=Eq.trans rfl rfl
attribute [go_sem] q9x
theorem qku (n:Int):qq Tryz.prog 132 [.int .i64 n] (.str (digI n)):=by
 refine qg c0co (by simp) (by simp only [go_sem]) rfl fun hw=>?_
 have hn:=qv5 hw.1
 have ha:n.natAbs < 18446744073709551616:=by omega
 obtain ⟨hn1,hn2⟩:=qbk6 hn
 unfold k0co
 refine qq3 (qr1 ?_)
 (refine ev_ ?_;(try with_reducible exact ti_))
 refine qq3 (qr1 ?_)
 (refine ev_ ?_;(try with_reducible exact ti_))
 refine qs5 (S:=Unit) (fun _=>True) (fun _=>(⟨[(0,.int .i64 n),(3,.int .u64 n.natAbs)],[]⟩,[])) ?_ fun _ _=>?_
 ·repeat' (first | refine vs_ ?_ | ((first | refine vr_ ?_ | (refine cs_ ?_ ?_<;>intro hc) | refine cj_ ?_ | simp (disch:=omega) only [qb,qm])<;>(try refine ev_ ?_)) | with_reducible exact ti_)
  ·refine qbl () [] trivial rfl (by simp) ?_ ?_ ?_<;>(try rw [hn1 (by assumption)])<;>(try refine ev_ ?_)<;>(try with_reducible exact ti_)<;>(try simp (disch:=omega) only [qm,and_true,true_and])
  ·refine qbl () [] trivial rfl (by simp) ?_ ?_ ?_<;>(try rw [hn2 (by assumption)])<;>(try refine ev_ ?_)<;>(try with_reducible exact ti_)<;>(try simp (disch:=omega) only [qm,and_true,true_and])
 ·repeat' (first | refine vs_ ?_ | ((first | refine vr_ ?_ | (refine cs_ ?_ ?_<;>intro hc) | refine cj_ ?_ | simp (disch:=omega) only [qb,qm])<;>(try refine ev_ ?_)) | with_reducible exact ti_)
  refine qcc (S:=Nat×List UInt8) (fun x=>digN x.1 ++ x.2 = digN n.natAbs∧x.1 < 18446744073709551616) (fun x=>(⟨[(0,.int .i64 n),(3,.int .u64 x.1),(4,.ptr 0 0),(5,.int .i64 ((20 - x.2.length:Nat):Int))],[]⟩,[.blk (qfo x.2)])) (fun x=>x.1) ?_ fun x hx=>?_
  ·refine qbl (n.natAbs,[]) [0] ⟨by simp,ha⟩ rfl (by simp) ?_ ?_ ?_<;>(try refine ev_ ?_)<;>(try with_reducible exact ti_)<;>(try simp (disch:=omega) only [qm,and_true,true_and])
   all_goals rfl
  ·obtain ⟨u,s⟩:=x
   obtain ⟨h1,h2⟩:=hx
   dsimp only at h1 h2
   have hl:s.length < 20:=by
    have:=congrArg List.length h1
    rw [List.length_append] at this
    have:=q35 ha
    have:=q9t u
    omega
   have h3:=qr5 (Nat.le_of_lt hl)
   have h4:=qr5 (s:=UInt8.ofNat (48 + u % 10) :: s) (by simp;omega)
   have h5:=q4s (UInt8.ofNat (48 + u % 10) :: s)
   have h6:=q9y (UInt8.ofNat (48 + u % 10) :: s)
   have hm:20 - (19 - s.length)≤maxLen:=by unfold maxLen;omega
   have hm2:1 + (s.length + 1)≤maxLen:=by unfold maxLen;omega
   repeat' (first | refine vs_ ?_ | ((first | refine vr_ ?_ | fail)<;>(try simp only [qbip,qbib,q0b,q5u u h2,qca8 hl,qwy hl,qyn hl,h3,h4,h5,h6,Nat.zero_add,Nat.mul_one,go_sem,↓reduceIte])) | ((first | (refine cs_ ?_ ?_<;>intro hc) | refine cj_ ?_ | simp (disch:=omega) only [qb,qm])<;>(try refine ev_ ?_)) | with_reducible exact ti_)
   ·rw [digI,if_pos (by assumption),← h1,qhx (u:=u) (by omega),show u % 10 = u by omega];rfl
   ·rw [digI,if_neg (by assumption),← h1,qhx (u:=u) (by omega),show u % 10 = u by omega];rfl
   ·refine qbl (u / 10,UInt8.ofNat (48 + u % 10) :: s) [0] ⟨⟨by rw [qwb (by omega)];exact h1,by dsimp only;omega⟩,by dsimp only;omega⟩ rfl (by simp) ?_ ?_ ?_<;>(try refine ev_ ?_)<;>(try with_reducible exact ti_)<;>(try simp (disch:=omega) only [qm,and_true,true_and])
    all_goals (rw [show 20 - (s.length + 1) = 19 - s.length by omega])
/-! letters -/
theorem qzx {n:Int} (h:(Lit.int .i64 n).wf = true):(digI n).length≤21:=by
 have hn:=qv5 h
 have:=q35 (u:=n.natAbs) (by omega)
 rw [digI]
 split
 ·rw [List.length_cons];omega
 ·omega
theorem qbcx {n:Nat}:digI (n:Int) = digN n:=by rw [digI,if_neg (by omega)];rfl
theorem q3z {z:Int} (h0:-9223372036854775808≤z) (h1:z≤9223372036854775807):IntKind.i64.wrap z = z:=by
 simp [IntKind.wrap,IntKind.signed,IntKind.bits]
 omega
end Go.Proofs.YtlmcofjcpadmiaaGreat
