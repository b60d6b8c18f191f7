/- Texts of this proof, joined. -/
import Derived.Test.YtkenggenkmfopaaGreatNbv
set_option linter.unusedVariables false
set_option linter.unusedSimpArgs false

/- the state: the example -/
namespace Go.Proofs.YtkenggenkmfopaaGreat
open Go Go.RowKit Go.V

def V1:Ty:=.mk [] (-1) []
def V2:Ty:=.mk [] (-2) []
def F0:Ty:=.mk [33,48] 0 []
def I0:Ty:=.mk [73,110,116] 0 []
def TV:Ty:=.mk [84] 0 [V1]
def TI:Ty:=.mk [84] 0 [I0]
def CV:Pd:=⟨[67],V1⟩
def CI:Pd:=⟨[67],I0⟩
def K1:List Pr:=[⟨-1,I0⟩]
def K2:List Pr:=[⟨-2,F0⟩,⟨-1,I0⟩]
def H1:Tm:=.mk 14 1 [] [] [] []
def H0:Tm:=.mk 14 0 [] [] [] []
def N9:Tm:=.mk 2 9 [] [] [] []
def N0:Tm:=.mk 2 0 [] [] [] []
def A1:SS:=⟨1,0,0,0,[],[],[],[],0,0⟩
def A2:SS:=⟨2,0,0,0,[],[],[],[],0,0⟩
def A3:SS:=⟨2,1,0,0,[],[],[],[],0,0⟩
def A4:SS:=⟨2,1,0,0,K1,[],[],[],0,0⟩
def A5:SS:=⟨2,1,0,1,K1,[⟨CV,5,0⟩],[],[(0,1)],0,0⟩
def A6:SS:=⟨2,1,0,2,K1,[⟨CV,5,0⟩],[],[(0,1),(1,1)],0,0⟩
def A7:SS:=⟨2,1,0,2,K1,[⟨CV,5,0⟩],[(0,H1)],[(1,1)],0,0⟩
def A8:SS:=⟨2,1,0,2,K1,[⟨CV,5,0⟩],[(0,H1),(1,N9)],[],0,0⟩
def A9:SS:=⟨2,1,0,2,K2,[⟨CV,5,0⟩],[(0,H1),(1,N9)],[],0,0⟩
def AA:SS:=⟨2,1,0,2,K2,[⟨CV,5,0⟩],[(0,H1),(1,N9)],[],7,14⟩
def AB:SS:=⟨2,1,1,2,K2,[⟨CV,5,0⟩],[(0,H1),(1,N9)],[],7,14⟩
def AC:SS:=⟨2,1,2,2,K2,[⟨CV,5,0⟩],[(0,H1),(1,N9)],[],7,14⟩
theorem q8z:digI 0 = [48]:=by kernel_rfl
theorem qbth:digI 1 = [49]:=by kernel_rfl
theorem qbsc:VM Tryz.prog 21 (stE S0) (stE A1) [.ptr 0 0] (encY V1):=qb1 (q8l S0) rfl rfl
theorem qbtd:VM Tryz.prog 21 (stE A1) (stE A2) [.ptr 0 0] (encY V2):=qb1 (q8l A1) rfl rfl
theorem qbxx:VM Tryz.prog 22 (stE A2) (stE A3) [.ptr 0 0] (encY F0):=qb1 (qbtw A2) rfl (by rw [show IntKind.i64.wrap (IntKind.i64.wrap (A2.fixed + 1) - 1) = 0 from rfl,q8z];rfl)
theorem qbrg:WitQ [] V1 I0 (K1,0):=by
 unfold WitQ
 rw [if_pos (by rfl),if_pos (by rfl)]
 exact ⟨(K1,0),by rw [UniQ,if_pos ⟨rfl,rfl⟩];exact ⟨10,rfl⟩,by rw [if_pos rfl];rfl⟩
theorem qbtz:WitQ K1 F0 V2 (K2,0):=by
 unfold WitQ
 rw [if_pos (by kernel_rfl),if_pos (by kernel_rfl)]
 exact ⟨([⟨-2,F0⟩],0),by rw [UniQ,if_pos ⟨by kernel_rfl,by kernel_rfl⟩];exact ⟨10,by kernel_rfl⟩,by rw [if_pos rfl];kernel_rfl⟩
theorem qbuq:WitQ K2 F0 I0 ([],14):=by
 unfold WitQ
 rw [if_pos (by kernel_rfl),if_pos (by kernel_rfl)]
 exact ⟨([],14),by rw [UniQ,if_pos ⟨by kernel_rfl,by kernel_rfl⟩];exact ⟨10,by kernel_rfl⟩,by rw [if_neg (by decide)]⟩
theorem q3b:okS K1:=(show newR K1 = K1 from rfl) ▸ qkc K1
theorem qbzu:okS K2:=(show newR K2 = K2 by kernel_rfl) ▸ qkc K2
theorem qbqg:VM Tryz.prog 12 (stE A3) (stE A4) [.ptr 0 0,encY V1,encY I0,.int .i64 3] (.bool true):=qb1 (qnm (S:=A3) 3 qef (by decide) (by decide) (by decide) (by decide) (by decide) qbrg) rfl rfl
theorem qbs4:VM Tryz.prog 12 (stE A8) (stE A9) [.ptr 0 0,encY F0,encY V2,.int .i64 4] (.bool true):=qb1 (qnm (S:=A8) 4 q3b (by decide) (by decide) (by decide) (by decide) (by decide) qbtz) rfl rfl
theorem qbuj:VM Tryz.prog 12 (stE A9) (stE AA) [.ptr 0 0,encY F0,encY I0,.int .i64 7] (.bool false):=qb1 (qnm (S:=A9) 7 qbzu (by decide) (by decide) (by decide) (by decide) (by decide) qbuq) rfl rfl
theorem qbzj:VM Tryz.prog 15 (stE A4) (stE A4) [.ptr 0 0,encY TV] (encY TI):=qb1 (qbmh (S:=A4) (t:=TV) (by decide) (qfk q3b) (by decide)) rfl (congrArg encY (by rfl))
theorem qbrf:VM Tryz.prog 25 (stE A4) (stE A5) [.ptr 0 0,encP CV,.int .i64 5] (.int .i64 0):=qb1 (qboe (S:=A4) CV 5 (by decide)) rfl rfl
theorem qbwh:VM Tryz.prog 26 (stE A5) (stE A6) [.ptr 0 0] (.int .i64 1):=qb1 (q79 A5) rfl rfl
theorem qbuu:VM Tryz.prog 27 (stE A6) (stE A6) [.ptr 0 0,.int .i64 0] (.sl 6 (qx [⟨CI,5,0⟩])):=qb1 (q45 (S:=A6) (n:=0) (by decide) q3b (by decide) (fun w hw=>by rw [show A6.waits = [⟨CV,5,0⟩] from rfl,List.mem_singleton] at hw;subst hw;decide)) rfl rfl
theorem qbvd:VM Tryz.prog 28 (stE A6) (stE A7) [.ptr 0 0,.int .i64 0,encT H1] (.int .i64 0):=qb1 (qq3 A6 0 H1) rfl rfl
theorem qbrq:VM Tryz.prog 28 (stE A7) (stE A8) [.ptr 0 0,.int .i64 1,encT N9] (.int .i64 0):=qb1 (qq3 A7 1 N9) rfl rfl
theorem qbs5:VM Tryz.prog 28 (stE AA) (stE AA) [.ptr 0 0,.int .i64 1,encT N0] (.int .i64 6):=qb1 (qq3 AA 1 N0) rfl rfl
theorem qbxi:qm9 A8 (lsV A8.known) (lsT A8.known) 4096 H0 4095 N9:=qtb (u:=H1) (j:=0) rfl rfl (qtb (u:=N9) (j:=1) rfl rfl (q37 (by decide) rfl rfl (by decide) (by decide)))
theorem qbyr:VM Tryz.prog 30 (stE A8) (stE A8) [.ptr 0 0,encT H0] (encT N9):=qb1 (qbiz (S:=A8) (by decide) (qfk q3b) qbxi) rfl (congrArg encT (by rfl))
theorem qbtp:VM Tryz.prog 19 (stE AA) (stE AA) [.ptr 0 0] (.tup [.int .i64 7,.int .i64 14]):=qb1 (qbia AA) rfl rfl
theorem qbym:VM Tryz.prog 23 (stE AA) (stE AB) [.ptr 0 0] (.str [35,48]):=qb1 (qw5 AA) rfl (by rw [show IntKind.i64.wrap (IntKind.i64.wrap (AA.names + 1) - 1) = 0 from rfl,q8z])
theorem qbre:VM Tryz.prog 23 (stE AB) (stE AC) [.ptr 0 0] (.str [35,49]):=qb1 (qw5 AB) rfl (by rw [show IntKind.i64.wrap (IntKind.i64.wrap (AB.names + 1) - 1) = 1 from rfl,qbth])
theorem qbtb:qi Tryz.prog 38 [encY TI] (.str [84,32,73,110,116]):=qlp (t:=TI) (by decide) (by decide) (by decide)
set_option maxRecDepth 4000

theorem q7w {L:List Ent} {Q:List Ent->VO->Prop} (hq:Q (L ++ [stE S0]) (.val (.ptr L.length 0))):VApp Tryz.prog L (.fn 11 [] []) [] Q:=qg8 qbyy rfl (by rfl) hq
theorem qbzf:AV.agg [.str [73,110,116],.int .i64 0,.sl 3 []] = encY I0:=rfl
theorem qbrx:AV.agg [.str [84],.int .i64 0,.sl 3 [encY V1]] = encY TV:=by simp only [TV,encY,qj]
theorem qbqj:AV.agg [.str [67],.str V1.con,.int .i64 V1.var,.sl 3 (qj V1.args)] = encP CV:=rfl
theorem qbw9:AV.agg [.int .i64 14,.int .i64 1,.str [],.sl 1 [],.sl 3 [],.sl 6 []] = encT H1:=by simp only [H1,encT,ints,List.map_nil,qj,qcg]
theorem qbp7:AV.agg [.int .i64 14,.int .i64 0,.str [],.sl 1 [],.sl 3 [],.sl 6 []] = encT H0:=by simp only [H0,encT,ints,List.map_nil,qj,qcg]
theorem qbsf:AV.agg [.int .i64 2,.int .i64 9,.str [],.sl 1 [],.sl 3 [],.sl 6 []] = encT N9:=by simp only [N9,encT,ints,List.map_nil,qj,qcg]
theorem qwo:AV.agg [.int .i64 2,.int .i64 0,.str [],.sl 1 [],.sl 3 [],.sl 6 []] = encT N0:=by simp only [N0,encT,ints,List.map_nil,qj,qcg]
theorem qbs2:(qx [⟨CI,5,0⟩]).getD 0 .junk = qdp ⟨CI,5,0⟩:=rfl
theorem qblz (a b:Ty) (k:Int):AV.bds 0 [encY a,encY b,.int .i64 k] = true:=by simp only [AV.bds,AV.bd,qw,Bool.and_true]
theorem qbsw (k:Int) (t:Tm):AV.bds 0 [.int .i64 k,encT t] = true:=by simp only [AV.bds,AV.bd,qcs,Bool.and_true]
theorem qbzw (p:Pd) (k:Int):AV.bds 0 [encP p,.int .i64 k] = true:=by simp only [AV.bds,AV.bd,qrs,Bool.and_true]
theorem qby9 (t:Tm):AV.bds 0 [encT t] = true:=by simp only [AV.bds,qcs,Bool.and_true]
theorem qbzr (t:Ty):AV.bds 0 [encY t] = true:=by simp only [AV.bds,qw,Bool.and_true]
theorem qbzc (l:List Wt):(AV.sl 6 (qx l)).bd 0 = true:=by simp only [AV.bd,qb7]
theorem qbff:VM Tryz.prog 28 (stE AA) (stE AA) [.ptr 0 0,.int .i64 1,.agg [.int .i64 2,.int .i64 0,.str [],.sl 1 [],.sl 3 [],.sl 6 []]] (.int .i64 6):=by rw [qwo];exact qbs5
theorem qbzg:AV.bds 0 [.int .i64 1,.agg [.int .i64 2,.int .i64 0,.str [],.sl 1 [],.sl 3 [],.sl 6 []]] = true:=rfl
set_option maxHeartbeats 4000000 in
theorem qbo1:qi Tryz.prog 10 [] (.bool true):=by
 refine qd c0dv (by simp) (by simp only [go_sem]) rfl fun hw=>?_
 unfold k0dv
 generalize hz:qs1 = z1
 repeat' (first | refine vs_ ?_ | ((first | refine vr_ ?_ | fail)<;>(try simp only [qbzf,qbrx,qbqj,qbw9,qbp7,qbsf,qwo,go_sem,↓reduceIte])) | ((first | (refine cs_ ?_ ?_<;>intro hc) | refine cj_ ?_ | simp (disch:=omega) only [encs_getN,qb] | refine q7w ?_ | refine qbl 0 qbsc ?_ | refine qbl 0 qbtd ?_ | refine qbl 0 qbxx ?_ | refine qo 0 qbqg (qblz _ _ _) rfl ?_ | refine qo 0 qbzj (qbzr _) (qw 0 _) ?_ | refine qo 0 qbrf (qbzw _ _) rfl ?_ | refine qbl 0 qbwh ?_ | refine qo 0 qbuu rfl (qbzc _) ?_ | refine qo 0 qbvd (qbsw _ _) rfl ?_ | refine qo 0 qbrq (qbsw _ _) rfl ?_ | refine qo 0 qbyr (qby9 _) (qcs 0 _) ?_ | refine qo 0 qbs4 (qblz _ _ _) rfl ?_ | refine qo 0 qbuj (qblz _ _ _) rfl ?_ | refine qbl 0 qbtp ?_)<;>(try refine ev_ ?_)) | with_reducible exact ti_)
 subst hz
 have q1:V1.var = -1:=rfl
 have q2:V2.var = -2:=rfl
 have q3:F0.con = [33,48]:=rfl
 have q4:CI.ty.con = [73,110,116]:=rfl
 have q5:N9.num = 9:=rfl
 have q6:N9.kind = 2:=rfl
 repeat' (first | refine vs_ ?_ | ((first | refine vr_ ?_ | fail)<;>(try simp only [q1,q2,q3,q4,q5,q6,qwo,qbs2,qfw,List.length_singleton,Int.reduceEq,Int.reduceNeg,decide_true,decide_false,Bool.false_eq_true,go_sem,↓reduceIte])) | ((first | simp (disch:=omega) only [qbs2] | (refine cs_ ?_ ?_<;>intro hc) | refine cj_ ?_ | simp (disch:=omega) only [encs_getN,qb] | refine qa qbtb fun _=>?_ | refine qo 0 qbff qbzg rfl ?_ | refine qbl 0 qbym ?_ | refine qbl 0 qbre ?_)<;>(try refine ev_ ?_)) | with_reducible exact ti_)
 all_goals first | (exfalso;omega) | exact absurd q4 hc | trace_state
end Go.Proofs.YtkenggenkmfopaaGreat
