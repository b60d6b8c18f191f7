/- A text of this proof. -/
import Derived.Test.YtlmcofjcpadmiaaGreatWbj
import Derived.Test.YtlmcofjcpadmiaaGreatWbe
set_option linter.unusedVariables false
set_option linter.unusedSimpArgs false

/- trees that are written: the reference: declarations -/
set_option maxRecDepth 4000
namespace Go.Proofs.YtlmcofjcpadmiaaGreat
open Go Go.RowKit Go.V

theorem qyu {n:N} (h:biW n = true) (hE:RE (ekN n 0)) (hl:(ptB n).length + 4≤Big):qh Tryz.prog 43 [enc n] (.str (ptB n)):=by
 obtain ⟨h1,h2,h3,h4,h5⟩:=qds h
 refine qe c0dp (by simp) (by simp only [go_sem]) rfl fun hw=>?_
 have hM:=qca
 have hkl:n.kids.length = 1:=by rw [h4];rfl
 have he:ptB n = n.text ++ ([32,61,32] ++ ptE (ekN n 0)):=by rw [qft,if_pos h1,if_pos (by omega)];rfl
 rw [he] at hl ⊢
 simp only [List.length_append,List.length_cons,List.length_nil] at hl
 have g0:(encs n.kids).getD 0 .junk = enc (ekN n 0):=qb (by omega)
 have hd:decide (n.kind = 31) = true:=decide_eq_true h1
 unfold RE at hE
 repeat' (first | refine vs_ ?_ | ((first | refine vr_ ?_ | fail)<;>(try simp only [hd,hkl,g0,List.length_append,go_sem,↓reduceIte])) | ((first | (refine cs_ ?_ ?_<;>intro hc) | refine cj_ ?_ | simp (disch:=omega) only [qb,qf] | refine qa hE fun _=>?_ | refine qc hE ?_)<;>(try refine ev_ ?_)) | with_reducible exact ti_)
theorem q5c {n:N} (h:sgW n = true) (hs:sz n≤1000000) (hl:(ptB n).length + 4≤Big):qh Tryz.prog 43 [enc n] (.str (ptB n)):=by
 obtain ⟨h1,h2,h3,h4,h5⟩:=qeu h
 refine qe c0dp (by simp) (by simp only [go_sem]) rfl fun hw=>?_
 have hM:=qca
 have hkl:n.kids.length = 1:=by rw [h4];rfl
 have m0:ekN n 0∈n.kids:=qg (by omega)
 have he:ptB n = n.text ++ ([32,58,58,32] ++ quT (ekN n 0)):=by rw [qft,if_neg (by omega),sgT];rfl
 rw [he] at hl ⊢
 simp only [List.length_append,List.length_cons,List.length_nil] at hl
 have hq:=qom (n:=ekN n 0) h5 (by have:=qbm m0;omega) (by omega)
 have g0:(encs n.kids).getD 0 .junk = enc (ekN n 0):=qb (by omega)
 have hd:decide (n.kind = 31) = false:=decide_eq_false (by omega)
 have hd2:decide (n.kind = 32) = true:=decide_eq_true h1
 repeat' (first | refine vs_ ?_ | ((first | refine vr_ ?_ | fail)<;>(try simp only [hd,hd2,hkl,g0,List.length_append,go_sem,↓reduceIte])) | ((first | (refine cs_ ?_ ?_<;>intro hc) | refine cj_ ?_ | simp (disch:=omega) only [qb,qf] | refine qa hq fun _=>?_ | refine qc hq ?_)<;>(try refine ev_ ?_)) | with_reducible exact ti_)
theorem qfo:∀ n,sz n≤1000000->(exW n = true->(ptE n).length + 4≤Big->RE n)∧((biW n = true∨sgW n = true)->(ptB n).length + 4≤Big->qh Tryz.prog 43 [enc n] (.str (ptB n)))∧(alW n = true->(ptL n).length + 4≤Big->RE (ekN n 1)):=N.ind fun n ih hs=>by
 have hk:∀ x∈n.kids,sz x≤1000000:=fun x hx=>by have:=qbm hx;omega
 refine ⟨fun h hl=>q6y h hs hl (fun x hx=>(ih x hx (hk x hx)).1) (fun x hx=>(ih x hx (hk x hx)).2.1) (fun x hx=>(ih x hx (hk x hx)).2.2),fun h hl=>?_,fun h hl=>?_⟩
 ·rcases h with h | h
  ·obtain ⟨h1,h2,h3,h4,h5⟩:=qds h
   have hkl:n.kids.length = 1:=by rw [h4];rfl
   have m0:ekN n 0∈n.kids:=qg (by omega)
   have he:ptB n = n.text ++ ([32,61,32] ++ ptE (ekN n 0)):=by rw [qft,if_pos h1,if_pos (by omega)];rfl
   exact qyu h ((ih _ m0 (hk _ m0)).1 h5 (by rw [he] at hl;simp only [List.length_append] at hl;omega)) hl
  ·exact q5c h hs hl
 ·obtain ⟨h1,h2,h3,h4,h5,h6⟩:=qfs h
  have hkl:n.kids.length = 2:=by rw [h4];rfl
  have m1:ekN n 1∈n.kids:=qg (by omega)
  have he:ptL n = ptP (ekN n 0) ++ ([32,45,62,32] ++ ptE (ekN n 1)):=by rw [qjd,if_pos (by omega)];rfl
  exact (ih _ m1 (hk _ m1)).1 h6 (by rw [he] at hl;simp only [List.length_append] at hl;omega)
theorem be0 (n:N):(beN n).getD 0 N0 = n.kids.getD n.num.toNat N0:=by
 rw [beN,List.getD_eq_getElem?_getD,List.getElem?_drop,Nat.add_zero,List.getD_eq_getElem?_getD]
theorem beI {n:N} {j i:Nat} (h:n.num.toNat + j = i):(beN n).getD j N0 = n.kids.getD i N0:=by
 rw [beN,List.getD_eq_getElem?_getD,List.getElem?_drop,h,List.getD_eq_getElem?_getD]
theorem be1 {n:N} (h:0≤n.num):(encs n.kids).drop (n.num + 1).toNat = encs ((beN n).drop 1):=by
 rw [qbv,beN,List.drop_drop,show (n.num + 1).toNat = n.num.toNat + 1 by omega]
theorem qbif {n:N} (h:vaW n = true):atT n = 32 :: n.text∧ptT n = n.text:=by
 obtain ⟨h1,h2⟩:=qsj h
 have hk:=qbff h2 h1
 have e:ptT n = n.text:=by rw [qeh,if_neg (fun e=>e.1 h1),hk];simp
 have hlf:qn n = true:=decide_eq_true hk
 exact ⟨by rw [atT,hlf,cloW,if_pos rfl,e],e⟩
def alD (l:List N) (j:Nat):List UInt8:=if j = 0 then [] else [32,61,32] ++ Lib.join ((l.take j).map ptT) [32,124,32]
theorem qyc {l:List N} {j:Nat} (h:j < l.length):alD l (j + 1) = if j = 0 then [32,61,32] ++ ptT (l.getD j N0) else alD l j ++ ([32,124,32] ++ ptT (l.getD j N0)):=by
 rw [alD,if_neg (by omega),qev h]
 split
 ·rfl
 ·rename_i h0;rw [alD,if_neg h0];simp
theorem q5y {l:List N} {j:Nat} (h:j≤l.length):(alD l j).length≤3 + (Lib.join (l.map ptT) [32,124,32]).length:=by
 unfold alD
 split
 ·simp
 ·have:=qfx (f:=ptT) (m:=[32,124,32]) (l:=l) j
  simp only [List.length_append,List.length_cons,List.length_nil];omega
set_option maxHeartbeats 2000000 in
theorem qn3 {n:N} (ht:deW n = true) (hs:sz n≤1000000) (hl:(ptD n).length + 4≤Big):RD n:=by
 have hkl:=qda n
 have hM:=qca
 have hsk:∀ x∈n.kids,sz x≤1000000:=fun x hx=>by have:=qbm hx;omega
 rcases qkx ht with ⟨h0,h1⟩ | ⟨h0,h1⟩ | ⟨h0,h1,h2,h3,h4,h5,h6⟩ | ⟨h0,h1,h2,h3,h5,h6,h7⟩ | ⟨h0,h1,h2,h3,h5,h6,h7⟩
 ·rw [qfj (.inl h0)] at hl
  unfold RD
  rw [qfj (.inl h0)]
  exact (qfo n hs).2.1 (.inl h1) hl
 ·rw [qfj (.inr h0)] at hl
  unfold RD
  rw [qfj (.inr h0)]
  exact (qfo n hs).2.1 (.inr h1) hl
 ·refine qe c0dp (by simp) (by simp only [go_sem]) rfl fun hw=>?_
  obtain ⟨w1,w2⟩:=dwr h3
  have hpos:n.num.toNat < n.kids.length:=by
   rcases Nat.lt_or_ge n.num.toNat n.kids.length with h | h
   ·exact h
   ·exact absurd (show beN n = [] from List.drop_of_length_le h) h4
  have hal:(ahN n).length = n.num.toNat:=by omega
  have hbl:(beN n).length = n.kids.length - n.num.toNat:=by rw [beN,List.length_drop]
  have hma:∀ x∈ahN n,x∈n.kids:=fun x hx=>List.mem_of_mem_take hx
  have hmb:∀ x∈beN n,x∈n.kids:=fun x hx=>List.mem_of_mem_drop hx
  have hD:ptD n = [100,97,116,97,32] ++ (n.text ++ (((ahN n).map atT).flatten ++ ([32,61,32] ++ Lib.join ((beN n).map ptT) [32,124,32]))):=by
   simp only [ptD,h0,Int.reduceEq,or_self,if_false,if_true]
  rw [hD] at hl ⊢
  simp only [List.length_append,List.length_cons,List.length_nil] at hl
  obtain ⟨e31,e32,e33,e35⟩:=kd_d h0
  simp only [Int.reduceEq,decide_false,decide_true] at e31 e32 e33 e35
  repeat' (first | refine vs_ ?_ | ((first | refine vr_ ?_ | fail)<;>(try simp only [e31,e32,e33,e35,List.length_append,go_sem,↓reduceIte])) | ((first | (refine cs_ ?_ ?_<;>intro hc) | refine cj_ ?_ | simp (disch:=omega) only [qb,qf])<;>(try refine ev_ ?_)) | with_reducible exact ti_)
  all_goals try (exfalso;omega)
  refine qt (S:=Nat) (fun i=>i≤n.num.toNat) (fun i=>(⟨[(1,.ptr 0 0),(2,.str []),(3,.str ([100,97,116,97,32] ++ (n.text ++ (((ahN n).take i).map atT).flatten))),(4,.int .i64 i)],[]⟩,[.blk [.int .i64 n.kind,.int .i64 n.pos,.int .i64 n.num,.str n.text,.sl 5 (encs n.kids)]])) (fun i=>n.num.toNat - i) ?_ fun i hi=>?_
  ·refine qs 0 [0] (Nat.zero_le _) rfl (by simp) ?_ ?_ ?_<;>(try refine ev_ ?_)<;>(try with_reducible exact ti_)<;>(try simp (disch:=omega) only [qf,and_true,true_and])
   all_goals simp
  ·by_cases hlt:i < n.num.toNat
   ·have hlt2:i < (ahN n).length:=by omega
    have hmx:=qg hlt2
    have hge:(ahN n).getD i N0 = n.kids.getD i N0:=by
     rw [ahN,List.getD_eq_getElem?_getD,List.getElem?_take_of_lt hlt,List.getD_eq_getElem?_getD]
    have hat:=(qbif (h5 _ hmx)).1
    have hfl:=qjv (f:=atT) (l:=ahN n) (i + 1)
    have hst:=qc4 (f:=atT) hlt2
    rw [hat,hge] at hst
    rw [hst] at hfl
    simp only [List.length_append,List.length_cons] at hfl
    have gi:(encs n.kids).getD i .junk = enc (n.kids.getD i N0):=qb (by omega)
    have hdl:decide ((i:Int) < n.num) = true:=decide_eq_true (by omega)
    repeat' (first | refine vs_ ?_ | ((first | refine vr_ ?_ | fail)<;>(try simp (disch:=first | omega | (simp only [List.length_set,List.length_append,List.length_cons,List.length_nil];done) | (simp only [List.length_set,List.length_append,List.length_cons,List.length_nil];omega)) only [qf,gi,hdl,List.length_append,go_sem,↓reduceIte])) | ((first | (refine cs_ ?_ ?_<;>intro hc) | refine cj_ ?_ | simp (disch:=omega) only [qb,qf])<;>(try refine ev_ ?_)) | with_reducible exact ti_)
    all_goals try (exfalso;omega)
    refine qs (i + 1) [0] ⟨by omega,by omega⟩ rfl (by simp) ?_ ?_ ?_<;>(try refine ev_ ?_)<;>(try with_reducible exact ti_)<;>(try simp (disch:=omega) only [qf,and_true,true_and])
    all_goals (rw [qb8 (by omega) (by omega),hst];exact ⟨by simp,rfl⟩)
   ·have hie:i = (ahN n).length:=by omega
    have hdl:decide ((i:Int) < n.num) = false:=decide_eq_false (by omega)
    rw [hie,List.take_length]
    rw [hie] at hdl
    repeat' (first | refine vs_ ?_ | ((first | refine vr_ ?_ | fail)<;>(try simp only [hdl,List.length_append,go_sem,↓reduceIte])) | ((first | (refine cs_ ?_ ?_<;>intro hc) | refine cj_ ?_ | simp (disch:=omega) only [qb,qf])<;>(try refine ev_ ?_)) | with_reducible exact ti_)
    all_goals try (exfalso;omega)
    refine qt (S:=Nat) (fun i=>n.num.toNat≤i∧i≤n.kids.length) (fun i=>(⟨[(1,.ptr 0 0),(2,.str []),(3,.str ([100,97,116,97,32] ++ (n.text ++ (((ahN n).map atT).flatten ++ alD (beN n) (i - n.num.toNat))))),(5,.int .i64 i)],[]⟩,[.blk [.int .i64 n.kind,.int .i64 n.pos,.int .i64 n.num,.str n.text,.sl 5 (encs n.kids)]])) (fun i=>n.kids.length - i) ?_ fun i hi=>?_
    ·refine qs n.num.toNat [0] ⟨Nat.le_refl _,by omega⟩ rfl (by simp) ?_ ?_ ?_<;>(try refine ev_ ?_)<;>(try with_reducible exact ti_)<;>(try simp (disch:=omega) only [qf,and_true,true_and])
     rw [w1,Nat.sub_self,alD,if_pos rfl]
     exact ⟨by simp,rfl⟩
    ·obtain ⟨j,hj⟩:∃ j,n.num.toNat + j = i:=⟨i - n.num.toNat,by omega⟩
     have eij:i - n.num.toNat = j:=by omega
     have eij2:i + 1 - n.num.toNat = j + 1:=by omega
     rw [eij]
     by_cases hlt:j < (beN n).length
     ·have hmx:=qg hlt
      have hge:=beI hj
      have hsx:=hsk _ (hmb _ hmx)
      have hjm:=qbf (m:=[32,124,32]) (List.mem_map_of_mem (f:=ptT) hmx)
      have hT:=qua (h6 _ hmx) hsx (by omega)
      have hjl:=qfx (f:=ptT) (m:=[32,124,32]) (l:=beN n) (j + 1)
      have hst:=qyc (l:=beN n) hlt
      have hsl:=q5y (l:=beN n) (j:=j + 1) (by omega)
      rw [hge] at hT hst hjm
      unfold RT at hT
      have gi:(encs n.kids).getD i .junk = enc (n.kids.getD i N0):=qb (by omega)
      have hdl:decide ((i:Int) < (n.kids.length:Int)) = true:=decide_eq_true (by omega)
      by_cases hj0:j = 0
      ·have hd1:decide ((i:Int) = n.num) = true:=decide_eq_true (by omega)
       rw [if_pos hj0] at hst
       rw [hst] at hsl
       simp only [List.length_append,List.length_cons,List.length_nil] at hsl
       rw [hj0,alD,if_pos rfl]
       repeat' (first | refine vs_ ?_ | ((first | refine vr_ ?_ | fail)<;>(try simp (disch:=first | omega | (simp only [List.length_set,List.length_append,List.length_cons,List.length_nil];done) | (simp only [List.length_set,List.length_append,List.length_cons,List.length_nil];omega)) only [qf,gi,hdl,hd1,List.length_append,go_sem,↓reduceIte])) | ((first | (refine cs_ ?_ ?_<;>intro hc) | refine cj_ ?_ | simp (disch:=omega) only [qb,qf] | refine qa hT fun _=>?_ | refine qc hT ?_)<;>(try refine ev_ ?_)) | with_reducible exact ti_)
       all_goals try (exfalso;omega)
       refine qs (i + 1) [0] ⟨⟨by omega,by omega⟩,by omega⟩ rfl (by simp) ?_ ?_ ?_<;>(try refine ev_ ?_)<;>(try with_reducible exact ti_)<;>(try simp (disch:=omega) only [qf,and_true,true_and])
       all_goals (rw [qb8 (by omega) (by omega),eij2,hst];exact ⟨by simp,rfl⟩)
      ·have hd1:decide ((i:Int) = n.num) = false:=decide_eq_false (by omega)
       rw [if_neg hj0] at hst
       rw [hst] at hsl
       simp only [List.length_append,List.length_cons,List.length_nil] at hsl
       repeat' (first | refine vs_ ?_ | ((first | refine vr_ ?_ | fail)<;>(try simp (disch:=first | omega | (simp only [List.length_set,List.length_append,List.length_cons,List.length_nil];done) | (simp only [List.length_set,List.length_append,List.length_cons,List.length_nil];omega)) only [qf,gi,hdl,hd1,List.length_append,go_sem,↓reduceIte])) | ((first | (refine cs_ ?_ ?_<;>intro hc) | refine cj_ ?_ | simp (disch:=omega) only [qb,qf] | refine qa hT fun _=>?_ | refine qc hT ?_)<;>(try refine ev_ ?_)) | with_reducible exact ti_)
       all_goals try (exfalso;omega)
       refine qs (i + 1) [0] ⟨⟨by omega,by omega⟩,by omega⟩ rfl (by simp) ?_ ?_ ?_<;>(try refine ev_ ?_)<;>(try with_reducible exact ti_)<;>(try simp (disch:=omega) only [qf,and_true,true_and])
       all_goals (rw [qb8 (by omega) (by omega),eij2,hst];exact ⟨by simp,rfl⟩)
     ·have hje:j = (beN n).length:=by omega
      have hdl:decide ((i:Int) < (n.kids.length:Int)) = false:=decide_eq_false (by omega)
      rw [hje,alD,if_neg (by omega),List.take_length]
      repeat' (first | refine vs_ ?_ | ((first | refine vr_ ?_ | fail)<;>(try simp only [hdl,List.length_append,go_sem,↓reduceIte])) | ((first | (refine cs_ ?_ ?_<;>intro hc) | refine cj_ ?_ | simp (disch:=omega) only [qb,qf])<;>(try refine ev_ ?_)) | with_reducible exact ti_)
      all_goals try (exfalso;omega)
      all_goals rfl
 ·refine qe c0dp (by simp) (by simp only [go_sem]) rfl fun hw=>?_
  obtain ⟨w1,w2⟩:=dwr h3
  have hlen:0 < (beN n).length∧n.num.toNat < n.kids.length:=by
   have e1:=congrArg List.length h2
   have e2:(ahN n).length = n.num.toNat:=by omega
   have e3:(beN n).length = n.kids.length - n.num.toNat:=by rw [beN,List.length_drop]
   simp only [List.length_append,List.length_cons] at e1
   omega
  have hma:∀ x∈ahN n,x∈n.kids:=fun x hx=>List.mem_of_mem_take hx
  have hm0:(beN n).getD 0 N0∈n.kids:=by rw [h2];simp
  have hmb:∀ x∈(beN n).drop 1,x∈n.kids:=fun x hx=>by rw [h2];simp only [List.mem_append,List.mem_cons];exact .inr (.inr hx)
  have hD:ptD n = [99,108,97,115,115,32] ++ (ctT (ahN n) ++ (n.text ++ (32 :: (n.kids.getD n.num.toNat N0).text ++ ([32,119,104,101,114,101,32] ++ brW (Lib.join (((beN n).drop 1).map ptB) smW))))):=by
   rw [← be0,← (qbif h6).1]
   simp only [ptD,h0,Int.reduceEq,or_self,if_false,if_true];rfl
  have hbl:=(qe9 (Lib.join (((beN n).drop 1).map ptB) smW)).1
  rw [hD] at hl ⊢
  simp only [List.length_append,List.length_cons,List.length_nil] at hl
  have hc:=qe3 (l:=ahN n) (fun x hx=>⟨h5 x hx,hsk x (hma x hx)⟩) (by rw [ahN,List.length_take];omega) (by omega)
  have hmem:∀ x∈(beN n).drop 1,qh Tryz.prog 43 [enc x] (.str (ptB x)):=fun x hx=>by
   have e1:=qbf (m:=smW) (List.mem_map_of_mem (f:=ptB) hx)
   exact (qfo x (hsk x (hmb x hx))).2.1 (.inr (h7 x hx)) (by omega)
  have hM2:=qnl hmem (by rw [List.length_drop,beN,List.length_drop];omega) (by omega)
  obtain ⟨e31,e32,e33,e35⟩:=kd_d h0
  simp only [Int.reduceEq,decide_false,decide_true] at e31 e32 e33 e35
  have g1:(encs n.kids).take n.num.toNat = encs (ahN n):=qbt _ _
  have hwr:IntKind.i64.wrap (n.num + 1) = n.num + 1:=qb8 (by omega) (by omega)
  have hM2:qh Tryz.prog 82 [.sl 5 (encs (n.kids.drop (IntKind.i64.wrap (n.num + 1)).toNat))] (.str (brW (Lib.join (((beN n).drop 1).map ptB) smW))):=by
   rw [hwr,← qbv,be1 (by omega)];exact hM2
  repeat' (first | refine vs_ ?_ | ((first | refine vr_ ?_ | fail)<;>(try simp only [e31,e32,e33,e35,w1,g1,hwr,List.length_append,go_sem,↓reduceIte])) | ((first | (refine cs_ ?_ ?_<;>intro hc) | refine cj_ ?_ | simp (disch:=omega) only [qb,qf] | refine qa hc fun _=>?_ | refine qa hM2 fun _=>?_ | refine qc hc ?_ | refine qc hM2 ?_)<;>(try refine ev_ ?_)) | with_reducible exact ti_)
  all_goals trace_state
 ·refine qe c0dp (by simp) (by simp only [go_sem]) rfl fun hw=>?_
  obtain ⟨w1,w2⟩:=dwr h3
  have hlen:0 < (beN n).length∧n.num.toNat < n.kids.length:=by
   have e1:=congrArg List.length h2
   have e2:(ahN n).length = n.num.toNat:=by omega
   have e3:(beN n).length = n.kids.length - n.num.toNat:=by rw [beN,List.length_drop]
   simp only [List.length_append,List.length_cons] at e1
   omega
  have hma:∀ x∈ahN n,x∈n.kids:=fun x hx=>List.mem_of_mem_take hx
  have hm0:(beN n).getD 0 N0∈n.kids:=by rw [h2];simp
  have hmb:∀ x∈(beN n).drop 1,x∈n.kids:=fun x hx=>by rw [h2];simp only [List.mem_append,List.mem_cons];exact .inr (.inr hx)
  have hD:ptD n = [105,110,115,116,97,110,99,101,32] ++ (ctT (ahN n) ++ (n.text ++ (32 :: clT (n.kids.getD n.num.toNat N0) ++ ([32,119,104,101,114,101,32] ++ brW (Lib.join (((beN n).drop 1).map ptB) smW))))):=by
   rw [← be0,← qtl]
   simp only [ptD,h0,Int.reduceEq,or_self,if_false,if_true];rfl
  have hbl:=(qe9 (Lib.join (((beN n).drop 1).map ptB) smW)).1
  have hal:=(qp (qn (n.kids.getD n.num.toNat N0)) (ptT (n.kids.getD n.num.toNat N0))).1
  have hat:(clT (n.kids.getD n.num.toNat N0)).length = (cloW (qn (n.kids.getD n.num.toNat N0)) (ptT (n.kids.getD n.num.toNat N0))).length:=rfl
  rw [hD] at hl ⊢
  simp only [List.length_append,List.length_cons,List.length_nil] at hl
  have hc:=qe3 (l:=ahN n) (fun x hx=>⟨h5 x hx,hsk x (hma x hx)⟩) (by rw [ahN,List.length_take];omega) (by omega)
  rw [be0] at h6 hm0
  have ha:=qg5 (qdh _ h6 (hsk _ hm0) (by omega)) (by omega)
  have hmem:∀ x∈(beN n).drop 1,qh Tryz.prog 43 [enc x] (.str (ptB x)):=fun x hx=>by
   have e1:=qbf (m:=smW) (List.mem_map_of_mem (f:=ptB) hx)
   exact (qfo x (hsk x (hmb x hx))).2.1 (.inl (h7 x hx)) (by omega)
  have hM2:=qnl hmem (by rw [List.length_drop,beN,List.length_drop];omega) (by omega)
  obtain ⟨e31,e32,e33,e35⟩:=kd_d h0
  simp only [Int.reduceEq,decide_false,decide_true] at e31 e32 e33 e35
  have g1:(encs n.kids).take n.num.toNat = encs (ahN n):=qbt _ _
  have hwr:IntKind.i64.wrap (n.num + 1) = n.num + 1:=qb8 (by omega) (by omega)
  have hM2:qh Tryz.prog 82 [.sl 5 (encs (n.kids.drop (IntKind.i64.wrap (n.num + 1)).toNat))] (.str (brW (Lib.join (((beN n).drop 1).map ptB) smW))):=by
   rw [hwr,← qbv,be1 (by omega)];exact hM2
  repeat' (first | refine vs_ ?_ | ((first | refine vr_ ?_ | fail)<;>(try simp only [e31,e32,e33,e35,w1,g1,hwr,List.length_append,go_sem,↓reduceIte])) | ((first | (refine cs_ ?_ ?_<;>intro hc) | refine cj_ ?_ | simp (disch:=omega) only [qb,qf] | refine qa hc fun _=>?_ | refine qa ha fun _=>?_ | refine qa hM2 fun _=>?_ | refine qc hc ?_ | refine qc ha ?_ | refine qc hM2 ?_)<;>(try refine ev_ ?_)) | with_reducible exact ti_)
  all_goals trace_state
end Go.Proofs.YtlmcofjcpadmiaaGreat
