/- A text of this proof. -/
import Derived.Test.YtlmcofjcpadmiaaGreatWbd
set_option linter.unusedVariables false
set_option linter.unusedSimpArgs false

/- trees that are written: the program's walk: declarations, programs -/
set_option maxRecDepth 4000
namespace Go.Proofs.YtlmcofjcpadmiaaGreat
open Go Go.RowKit Go.V

theorem qcj:∀ n,sz n≤1000000->(exW n = true->(ptE n).length + 4≤Big->PE n)∧((biW n = true∨sgW n = true)->(ptB n).length + 4≤Big->PD n)∧(alW n = true->(ptL n).length + 4≤Big->qh Tryz.prog 138 [enc n] (.str (ptL n))):=N.ind fun n ih hs=>by
 have hk:∀ x∈n.kids,sz x≤1000000:=fun x hx=>by have:=qbm hx;omega
 refine ⟨fun h hl=>qnr h hs hl (fun x hx=>(ih x hx (hk x hx)).1) (fun x hx=>(ih x hx (hk x hx)).2.1) (fun x hx=>(ih x hx (hk x hx)).2.2),fun h hl=>?_,fun h hl=>?_⟩
 ·rcases h with h | h
  ·obtain ⟨h1,h2,h3,h4,h5⟩:=qds h
   have hkl:n.kids.length = 1:=by rw [h4];rfl
   have m0:ekN n 0∈n.kids:=qg (by omega)
   have he:ptB n = n.text ++ ([32,61,32] ++ ptE (ekN n 0)):=by rw [qft,if_pos h1,if_pos (by omega)];rfl
   exact qk8 h ((ih _ m0 (hk _ m0)).1 h5 (by rw [he] at hl;simp only [List.length_append] at hl;omega)) hl
  ·exact qno h hs hl
 ·obtain ⟨h1,h2,h3,h4,h5,h6⟩:=qfs h
  have hkl:n.kids.length = 2:=by rw [h4];rfl
  have m1:ekN n 1∈n.kids:=qg (by omega)
  have he:ptL n = ptP (ekN n 0) ++ ([32,45,62,32] ++ ptE (ekN n 1)):=by rw [qjd,if_pos (by omega)];rfl
  exact qns h hs ((ih _ m1 (hk _ m1)).1 h6 (by rw [he] at hl;simp only [List.length_append] at hl;omega)) hl
theorem kd_d {n:N} {k:Int} (h:n.kind = k):decide (n.kind = 31) = decide (k = 31)∧decide (n.kind = 32) = decide (k = 32)∧decide (n.kind = 33) = decide (k = 33)∧decide (n.kind = 35) = decide (k = 35):=by
 rw [h];exact ⟨rfl,rfl,rfl,rfl⟩
theorem dwr {n:N} (h3:((ahN n).length:Int) = n.num):(n.num.toNat:Int) = n.num∧n.num.toNat≤n.kids.length:=by
 have:(ahN n).length≤n.kids.length:=by rw [ahN,List.length_take];omega
 have h2:(ahN n).length = min n.num.toNat n.kids.length:=by rw [ahN,List.length_take]
 omega
set_option maxHeartbeats 2000000 in
theorem qgm {n:N} (ht:deW n = true) (hs:sz n≤1000000) (hl:(ptD n).length + 4≤Big):PD n:=by
 have hkl:=qda n
 have hM:=qca
 have hsk:∀ x∈n.kids,sz x≤1000000:=fun x hx=>by have:=qbm hx;omega
 rcases qkx ht with ⟨h0,h1⟩ | ⟨h0,h1⟩ | ⟨h0,h1,h2,h3,h4,h5,h6⟩ | ⟨h0,h1,h2,h3,h5,h6,h7⟩ | ⟨h0,h1,h2,h3,h5,h6,h7⟩
 ·rw [qfj (.inl h0)] at hl
  exact (qcj n hs).2.1 (.inl h1) hl
 ·rw [qfj (.inr h0)] at hl
  exact (qcj n hs).2.1 (.inr h1) hl
 ·refine qee (qe c0j (by simp) (by simp only [go_sem]) rfl fun hw=>?_)
  obtain ⟨w1,w2⟩:=dwr h3
  have hpos:n.num.toNat < n.kids.length:=by
   rcases Nat.lt_or_ge n.num.toNat n.kids.length with h | h
   ·exact h
   ·exact absurd (show beN n = [] from List.drop_of_length_le h) h4
  have hma:∀ x∈ahN n,x∈n.kids:=fun x hx=>List.mem_of_mem_take hx
  have hmb:∀ x∈beN n,x∈n.kids:=fun x hx=>List.mem_of_mem_drop hx
  have hD:ptD n = [100,97,116,97,32] ++ (n.text ++ (Lib.join ((ahN n).map atT) [] ++ ([32,61,32] ++ Lib.join ((beN n).map ptT) [32,124,32]))):=by
   simp only [ptD,h0,Int.reduceEq,or_self,if_false,if_true,qch]
  rw [hD] at hl ⊢
  simp only [List.length_append,List.length_cons,List.length_nil] at hl
  have hj1:=q7 (l:=ahN n) (g:=atT) (m:=[]) (fun x hx=>qbx (qbj x (qsj (h5 x hx)).2 (hsk x (hma x hx)) (by
   have e1:=qbf (m:=[]) (List.mem_map_of_mem (f:=atT) hx)
   have e2:=(qp (qn x) (ptT x)).1
   have e3:(atT x).length = (cloW (qn x) (ptT x)).length + 1:=rfl
   omega)) (by
   have e1:=qbf (m:=[]) (List.mem_map_of_mem (f:=atT) hx)
   have e2:=(qp (qn x) (ptT x)).1
   have e3:(atT x).length = (cloW (qn x) (ptT x)).length + 1:=rfl
   omega)) (by omega) (by rw [ahN,List.length_take];omega)
  have hc1:∀ x∈beN n,qh Tryz.prog 139 [enc x] (.str (ptT x)):=fun x hx=>by
   have e1:=qbf (m:=[32,124,32]) (List.mem_map_of_mem (f:=ptT) hx)
   have hp:=qk6 (h6 x hx) (hsk x (hmb x hx)) (by omega)
   unfold PT at hp
   refine qe c0k (by simp) (by simp only [go_sem]) rfl fun hw=>?_
   repeat' (first | refine vs_ ?_ | ((first | refine vr_ ?_ | refine qa hp fun _=>?_ | refine qc hp ?_ | (refine cs_ ?_ ?_<;>intro hc) | refine cj_ ?_ | simp (disch:=omega) only [qb,qf])<;>(try refine ev_ ?_)) | with_reducible exact ti_)
  have hj2:=q7 (l:=beN n) (m:=[32,124,32]) hc1 (by omega) (by rw [beN,List.length_drop];omega)
  obtain ⟨e31,e32,e33,e35⟩:=kd_d h0
  simp only [Int.reduceEq,decide_false,decide_true] at e31 e32 e33 e35
  have g1:(encs n.kids).take n.num.toNat = encs (ahN n):=qbt _ _
  have g2:(encs n.kids).drop n.num.toNat = encs (beN n):=qbv _ _
  repeat' (first | refine vs_ ?_ | ((first | refine vr_ ?_ | fail)<;>(try simp only [e31,e32,e33,e35,w1,g1,g2,List.length_append,go_sem,↓reduceIte])) | ((first | (refine cs_ ?_ ?_<;>intro hc) | refine cj_ ?_ | simp (disch:=omega) only [qb,qf] | refine qa hj1 fun _=>?_ | refine qa hj2 fun _=>?_ | refine qc hj1 ?_ | refine qc hj2 ?_)<;>(try refine ev_ ?_)) | with_reducible exact ti_)
 ·refine qee (qe c0j (by simp) (by simp only [go_sem]) rfl fun hw=>?_)
  obtain ⟨w1,w2⟩:=dwr h3
  have hlen:0 < (beN n).length∧n.num.toNat < n.kids.length:=by
   have e1:=congrArg List.length h2
   have e2:(ahN n).length = n.num.toNat:=by omega
   have e3:(beN n).length = n.kids.length - n.num.toNat:=by rw [beN,List.length_drop]
   simp only [List.length_append,List.length_cons] at e1
   omega
  have hma:∀ x∈ahN n,x∈n.kids:=fun x hx=>List.mem_of_mem_take hx
  have hm0:(beN n).getD 0 N0∈n.kids:=by rw [h2];simp
  have hmb:∀ x∈(beN n).drop 1,x∈n.kids:=fun x hx=>by rw [h2];simp only [List.mem_append,List.mem_cons];exact .inr (.inr hx)
  have hD:ptD n = [99,108,97,115,115,32] ++ (ctT (ahN n) ++ (n.text ++ (atT ((beN n).getD 0 N0) ++ ([32,119,104,101,114,101,32] ++ brW (Lib.join (((beN n).drop 1).map ptB) smW))))):=by
   simp only [ptD,h0,Int.reduceEq,or_self,if_false,if_true];rfl
  have hbl:=(qe9 (Lib.join (((beN n).drop 1).map ptB) smW)).1
  have hal:=(qp (qn ((beN n).getD 0 N0)) (ptT ((beN n).getD 0 N0))).1
  have hat:(atT ((beN n).getD 0 N0)).length = (cloW (qn ((beN n).getD 0 N0)) (ptT ((beN n).getD 0 N0))).length + 1:=rfl
  rw [hD] at hl ⊢
  simp only [List.length_append,List.length_cons,List.length_nil] at hl
  have hc:=qc2 (l:=ahN n) (fun x hx=>⟨h5 x hx,hsk x (hma x hx)⟩) (by rw [ahN,List.length_take];omega) (by omega)
  have ha:=qbx (qbj _ (qsj h6).2 (hsk _ hm0) (by omega)) (by omega)
  have hmem:∀ x∈(beN n).drop 1,PD x∧ptD x = ptB x:=fun x hx=>by
   have e1:=qbf (m:=smW) (List.mem_map_of_mem (f:=ptB) hx)
   exact ⟨(qcj x (hsk x (hmb x hx))).2.1 (.inr (h7 x hx)) (by omega),qfj (.inr (qeu (h7 x hx)).1)⟩
  have hM2:=qcx hmem (by omega) (by rw [List.length_drop,beN,List.length_drop];omega)
  obtain ⟨e31,e32,e33,e35⟩:=kd_d h0
  simp only [Int.reduceEq,decide_false,decide_true] at e31 e32 e33 e35
  have g1:(encs n.kids).take n.num.toNat = encs (ahN n):=qbt _ _
  have g2:(encs n.kids).drop n.num.toNat = encs (beN n):=qbv _ _
  have g3:(encs (beN n)).drop 1 = encs ((beN n).drop 1):=qbv _ _
  have g4:(encs (beN n)).getD 0 .junk = enc ((beN n).getD 0 N0):=qb hlen.1
  have hlb:(beN n).length = n.kids.length - n.num.toNat:=by rw [beN,List.length_drop]
  repeat' (first | refine vs_ ?_ | ((first | refine vr_ ?_ | fail)<;>(try simp only [e31,e32,e33,e35,w1,g1,g2,g3,g4,List.length_append,go_sem,↓reduceIte])) | ((first | (refine cs_ ?_ ?_<;>intro hc) | refine cj_ ?_ | simp (disch:=omega) only [qb,qf] | refine qa hc fun _=>?_ | refine qa ha fun _=>?_ | refine qa hM2 fun _=>?_ | refine qc hc ?_ | refine qc ha ?_ | refine qc hM2 ?_)<;>(try refine ev_ ?_)) | with_reducible exact ti_)
 ·refine qee (qe c0j (by simp) (by simp only [go_sem]) rfl fun hw=>?_)
  obtain ⟨w1,w2⟩:=dwr h3
  have hlen:0 < (beN n).length∧n.num.toNat < n.kids.length:=by
   have e1:=congrArg List.length h2
   have e2:(ahN n).length = n.num.toNat:=by omega
   have e3:(beN n).length = n.kids.length - n.num.toNat:=by rw [beN,List.length_drop]
   simp only [List.length_append,List.length_cons] at e1
   omega
  have hma:∀ x∈ahN n,x∈n.kids:=fun x hx=>List.mem_of_mem_take hx
  have hm0:(beN n).getD 0 N0∈n.kids:=by rw [h2];simp
  have hmb:∀ x∈(beN n).drop 1,x∈n.kids:=fun x hx=>by rw [h2];simp only [List.mem_append,List.mem_cons];exact .inr (.inr hx)
  have hD:ptD n = [105,110,115,116,97,110,99,101,32] ++ (ctT (ahN n) ++ (n.text ++ (atT ((beN n).getD 0 N0) ++ ([32,119,104,101,114,101,32] ++ brW (Lib.join (((beN n).drop 1).map ptB) smW))))):=by
   simp only [ptD,h0,Int.reduceEq,or_self,if_false,if_true];rfl
  have hbl:=(qe9 (Lib.join (((beN n).drop 1).map ptB) smW)).1
  have hal:=(qp (qn ((beN n).getD 0 N0)) (ptT ((beN n).getD 0 N0))).1
  have hat:(atT ((beN n).getD 0 N0)).length = (cloW (qn ((beN n).getD 0 N0)) (ptT ((beN n).getD 0 N0))).length + 1:=rfl
  rw [hD] at hl ⊢
  simp only [List.length_append,List.length_cons,List.length_nil] at hl
  have hc:=qc2 (l:=ahN n) (fun x hx=>⟨h5 x hx,hsk x (hma x hx)⟩) (by rw [ahN,List.length_take];omega) (by omega)
  have ha:=qbx (qbj _ h6 (hsk _ hm0) (by omega)) (by omega)
  have hmem:∀ x∈(beN n).drop 1,PD x∧ptD x = ptB x:=fun x hx=>by
   have e1:=qbf (m:=smW) (List.mem_map_of_mem (f:=ptB) hx)
   exact ⟨(qcj x (hsk x (hmb x hx))).2.1 (.inl (h7 x hx)) (by omega),qfj (.inl (qds (h7 x hx)).1)⟩
  have hM2:=qcx hmem (by omega) (by rw [List.length_drop,beN,List.length_drop];omega)
  obtain ⟨e31,e32,e33,e35⟩:=kd_d h0
  simp only [Int.reduceEq,decide_false,decide_true] at e31 e32 e33 e35
  have g1:(encs n.kids).take n.num.toNat = encs (ahN n):=qbt _ _
  have g2:(encs n.kids).drop n.num.toNat = encs (beN n):=qbv _ _
  have g3:(encs (beN n)).drop 1 = encs ((beN n).drop 1):=qbv _ _
  have g4:(encs (beN n)).getD 0 .junk = enc ((beN n).getD 0 N0):=qb hlen.1
  have hlb:(beN n).length = n.kids.length - n.num.toNat:=by rw [beN,List.length_drop]
  repeat' (first | refine vs_ ?_ | ((first | refine vr_ ?_ | fail)<;>(try simp only [e31,e32,e33,e35,w1,g1,g2,g3,g4,List.length_append,go_sem,↓reduceIte])) | ((first | (refine cs_ ?_ ?_<;>intro hc) | refine cj_ ?_ | simp (disch:=omega) only [qb,qf] | refine qa hc fun _=>?_ | refine qa ha fun _=>?_ | refine qa hM2 fun _=>?_ | refine qc hc ?_ | refine qc ha ?_ | refine qc hM2 ?_)<;>(try refine ev_ ?_)) | with_reducible exact ti_)
end Go.Proofs.YtlmcofjcpadmiaaGreat
