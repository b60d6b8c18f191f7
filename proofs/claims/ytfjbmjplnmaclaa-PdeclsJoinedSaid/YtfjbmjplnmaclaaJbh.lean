/- Texts of this proof, joined. -/
import Derived.Test.YtfjbmjplnmaclaaJaz
import Derived.Test.YtfjbmjplnmaclaaJbf
import Derived.Test.YtfjbmjplnmaclaaJbg
import Derived.Test.YtfjbmjplnmaclaaJas
set_option linter.unusedVariables false
set_option linter.unusedSimpArgs false

/- declarations: the examples of the statements -/
set_option maxRecDepth 4000
namespace Go.Proofs.Ytfjbmjplnmaclaa
open Go Go.RowKit Go.V

def dcS:List UInt8:=[99,108,97,115,115,32,69,113,32,97,32,61,62,32,79,114,100,32,97,32,119,104,101,114,101,32,123,32,108,116,32,58,58,32,97,32,45,62,32,97,32,45,62,32,66,32,125,59,32,105,110,115,116,97,110,99,101,32,69,113,32,66,32,119,104,101,114,101,32,123,32,101,113,32,120,32,121,32,61,32,84,59,32,125,59,32,102,32,58,58,32,66,59,32,102,32,61,32,84]
def dn1k:N:=.mk 33 0 0 [66] [.mk 34 9 0 [84] [],.mk 34 13 0 [70] []]
def dn1:N:=.mk 37 0 0 [] [dn1k]
def dn2a:List N:=[.mk 3 6 0 [69,113] [.mk 1 9 0 [97] []],.mk 1 18 0 [97] [],.mk 32 28 0 [108,116] [.mk 4 34 0 [] [.mk 2 34 0 [45,62] [.mk 1 34 0 [97] [],.mk 2 39 0 [45,62] [.mk 1 39 0 [97] [],.mk 2 44 0 [66] []]]]]]
def dn2b:List N:=[.mk 2 61 0 [66] [],.mk 31 71 0 [101,113] [.mk 25 74 0 [120] [.mk 25 76 0 [121] [.mk 22 80 0 [84] []]]]]
def dn2c:List N:=[.mk 32 86 0 [102] [.mk 4 91 0 [] [.mk 2 91 0 [66] []]],.mk 31 94 0 [102] [.mk 22 98 0 [84] []]]
def dn2:N:=.mk 37 0 0 [] (.mk 35 0 1 [79,114,100] dn2a :: .mk 36 49 0 [69,113] dn2b :: dn2c)
def dn3:N:=.mk 33 0 1 [77] [.mk 1 7 0 [97] [],.mk 34 11 0 [78] [],.mk 34 15 0 [74] [.mk 1 17 0 [97] []]]
def dn5:N:=.mk 37 0 0 [] []
theorem awD1:qc9 Try.prog 7 [.str [100,97,116,97,32,66,32,61,32,84,32,124,32,70,59]] (.tup [enc dn1,.int .i64 0,.int .i64 0]):=qw5 (qcv _ (by decide)) (by rw [show qdr [100,97,116,97,32,66,32,61,32,84,32,124,32,70,59] = (dn1,0,0) by kernel_rfl];rfl)
theorem awD2:qc9 Try.prog 7 [.str dcS] (.tup [enc dn2,.int .i64 0,.int .i64 0]):=qw5 (qcv _ (by decide)) (by rw [show qdr dcS = (dn2,0,0) by kernel_rfl];rfl)
theorem awD3:qc9 Try.prog 8 [.str [100,97,116,97,32,77,32,97,32,61,32,78,32,124,32,74,32,97]] (.tup [enc dn3,.int .i64 0,.int .i64 0]):=qw5 (qym _ (by decide)) (by rw [show qb0p [100,97,116,97,32,77,32,97,32,61,32,78,32,124,32,74,32,97] = (dn3,0,0) by kernel_rfl];rfl)
theorem awD4:qc9 Try.prog 7 [.str [120,32,61,32,49,59,32,59]] (.tup [enc N0,.int .i64 7,.int .i64 5]):=qw5 (qcv _ (by decide)) (by rw [show qdr [120,32,61,32,49,59,32,59] = (N0,7,5) by kernel_rfl];rfl)
theorem awD5:qc9 Try.prog 7 [.str []] (.tup [enc dn5,.int .i64 0,.int .i64 0]):=qw5 (qcv _ (by decide)) (by rw [show qdr [] = (dn5,0,0) by kernel_rfl];rfl)
theorem qbtx:dn1.kids.length = 1:=rfl
theorem qba0:(encs dn1.kids).getD 0 .junk = .agg [.int .i64 33,.int .i64 0,.int .i64 0,.str [66],.sl 5 [enc (.mk 34 9 0 [84] []),enc (.mk 34 13 0 [70] [])]]:=rfl
theorem qbqn:dn2.kids.length = 4:=rfl
theorem qbap:(encs dn2.kids).getD 0 .junk = .agg [.int .i64 35,.int .i64 0,.int .i64 1,.str [79,114,100],.sl 5 (encs dn2a)]:=rfl
theorem qbdb:(encs dn2.kids).getD 1 .junk = .agg [.int .i64 36,.int .i64 49,.int .i64 0,.str [69,113],.sl 5 (encs dn2b)]:=rfl
theorem qbmz:dn3.num = 1:=rfl
theorem qbqg:dn3.kids.length = 3:=rfl
theorem qban:dn5.kind = 37:=rfl
attribute [go_sem] qbtx qba0 qbqn qbap qbdb qbmz qbqg qban
theorem qbu:qc9 Try.prog 6 [] (.bool true):=by
 refine qb3 c0dm (by simp) (by simp only [go_sem]) rfl fun hw=>?_
 have h2:=awD2
 unfold dcS at h2
 repeat' (first | refine vs_ ?_ | ((first | refine vr_ ?_ | fail)<;>(try simp only [Int.reduceLT,Int.reduceLE,Int.reduceEq,decide_true,ne_eq,not_true_eq_false,go_sem,↓reduceIte])) | ((first | (refine cs_ ?_ ?_<;>intro hc) | refine cj_ ?_ | simp (disch:=omega) only [qk,qbb] | refine qf awD1 fun _=>?_ | refine qf h2 fun _=>?_ | refine qf awD3 fun _=>?_ | refine qf awD4 fun _=>?_ | refine qf awD5 fun _=>?_)<;>(try refine ev_ ?_)) | with_reducible exact ti_)
 all_goals first | exact absurd rfl (by assumption) | trace_state
set_option maxRecDepth 4000

def jn1:List (GI×List Nat):=[(⟨none,some 72,.v (.fad (.t 5) 4)⟩,[]),(⟨none,some 73,.v (.ld false 1 (.t 72))⟩,[]),(⟨none,some 74,.app 5 (.agg [(.int .i64 0),(.int .i64 0),(.int .i64 0),(.str []),.nils]) 64 (.sl 5) (.c .nils) (.t 73)⟩,[]),(⟨none,some 75,.v (.fad (.t 8) 4)⟩,[]),(⟨none,some 76,.v (.ld false 1 (.t 75))⟩,[2]),(⟨none,some 77,.app 5 (.agg [(.int .i64 0),(.int .i64 0),(.int .i64 0),(.str []),.nils]) 64 (.sl 5) (.t 74) (.t 76)⟩,[]),(⟨none,some 78,.v (.bld [(.int .i64 0),(.int .i64 0),(.int .i64 0),(.str []),.nils] [(0,1,(.c (.int .i64 37))),(4,1,(.t 77))])⟩,[]),(⟨none,some 18,.alo [(.int .i64 0),(.int .i64 0),(.int .i64 0),(.str []),.nils]⟩,[1,4]),(⟨none,none,.st 5 (.agg [.id,.id,.id,.id,(.sl 5)]) (.t 18) (.t 78)⟩,[])]
def jn2:List (GI×List Nat):=[(⟨none,some 18,.alo [(.int .i64 0),(.int .i64 0),(.int .i64 0),(.str []),.nils]⟩,[]),(⟨none,some 72,.v (.fad (.t 5) 4)⟩,[]),(⟨none,some 73,.v (.ld false 1 (.t 72))⟩,[0]),(⟨none,some 74,.app 5 (.agg [(.int .i64 0),(.int .i64 0),(.int .i64 0),(.str []),.nils]) 64 (.sl 5) (.c .nils) (.t 73)⟩,[]),(⟨none,some 75,.v (.fad (.t 8) 4)⟩,[]),(⟨none,some 76,.v (.ld false 1 (.t 75))⟩,[0,3]),(⟨none,some 77,.app 5 (.agg [(.int .i64 0),(.int .i64 0),(.int .i64 0),(.str []),.nils]) 64 (.sl 5) (.t 74) (.t 76)⟩,[]),(⟨none,some 78,.v (.bld [(.int .i64 0),(.int .i64 0),(.int .i64 0),(.str []),.nils] [(0,1,(.c (.int .i64 37))),(4,1,(.t 77))])⟩,[]),(⟨none,none,.st 5 (.agg [.id,.id,.id,.id,(.sl 5)]) (.t 18) (.t 78)⟩,[])]
def jn3:List (GI×List Nat):=[(⟨none,some 72,.v (.fad (.t 5) 4)⟩,[]),(⟨none,some 73,.v (.ld false 1 (.t 72))⟩,[]),(⟨none,some 74,.app 5 (.agg [(.int .i64 0),(.int .i64 0),(.int .i64 0),(.str []),.nils]) 64 (.sl 5) (.c .nils) (.t 73)⟩,[]),(⟨none,some 18,.alo [(.int .i64 0),(.int .i64 0),(.int .i64 0),(.str []),.nils]⟩,[1]),(⟨none,some 75,.v (.fad (.t 8) 4)⟩,[]),(⟨none,some 76,.v (.ld false 1 (.t 75))⟩,[2,3]),(⟨none,some 77,.app 5 (.agg [(.int .i64 0),(.int .i64 0),(.int .i64 0),(.str []),.nils]) 64 (.sl 5) (.t 74) (.t 76)⟩,[]),(⟨none,some 78,.v (.bld [(.int .i64 0),(.int .i64 0),(.int .i64 0),(.str []),.nils] [(0,1,(.c (.int .i64 37))),(4,1,(.t 77))])⟩,[]),(⟨none,none,.st 5 (.agg [.id,.id,.id,.id,(.sl 5)]) (.t 18) (.t 78)⟩,[])]
theorem q9k (l:List N):nc (qew l) = [.int .i64 37,.int .i64 0,.int .i64 0,.str [],.sl 5 (encs l)]:=by simp only [qew,nc,N.kind,N.pos,N.num,N.text,N.kids]
theorem JN.kids_len {s:List UInt8} (hs:s.length≤100000) (h:(qdr s).2.2 = 0):(qdr s).1.kids.length≤1000000:=by
 obtain ⟨_,_,_,ps,_⟩:=JN.prog_is h
 have hz:=JN.sz_prog (s:=s) hs
 rw [ps]
 rw [qhv] at hz
 have:=q4h (qew (rowS qp qcb false (newK (lexV s).1) []).2.2.1).kids
 show (qew (rowS qp qcb false (newK (lexV s).1) []).2.2.1).kids.length≤1000000
 omega
theorem qgr (a b:List N):encs a ++ encs b = encs (a ++ b):=by rw [qdw,qdw,qdw,List.map_append]
theorem cap1 {n:Nat} (h:n≤2000000):qeb n 64:=by unfold qeb;omega
set_option maxHeartbeats 4000000 in
theorem qvm (s t:List UInt8):qc9 Try.prog 5 [.str s,.str t] (.bool true):=by
 refine qb3 c0a (by simp) (by simp only [go_sem]) (by simp only [go_sem]) fun hw=>?_
 have hsl:s.length≤maxLen:=by simpa [go_sem] using hw.1
 have htl:t.length≤maxLen:=by have:=hw.2;simpa [go_sem] using this
 have hM:100000≤maxLen:=by decide
 by_cases hs:s.length≤2000
 ·by_cases ht:t.length≤2000
  ·have e0:=qcv s (by omega)
   have e1:=qcv t (by omega)
   have e2:=qcv (s ++ [10,59] ++ t) (by simp only [List.length_append,List.length_cons,List.length_nil];omega)
   have e3:=qcv (s ++ [10] ++ t) (by simp only [List.length_append,List.length_cons,List.length_nil];omega)
   have hlaw:(qdr s).2.2 = 0->(qdr t).2.2 = 0->(qdr s).1.kids≠[]->(((qdr (s ++ [10,59] ++ t)).2.2 = 0∧qit (qdr (s ++ [10,59] ++ t)).1 (qew ((qdr s).1.kids ++ (qdr t).1.kids)) = true)∨((qdr (s ++ [10] ++ t)).2.2 = 0∧qit (qdr (s ++ [10] ++ t)).1 (qew ((qdr s).1.kids ++ (qdr t).1.kids)) = true)):=fun h1 h2 h3=>by
    rcases JN.law_joined hs ht h1 h2 h3 with ⟨x,q1,q2⟩ | ⟨x,q1,q2⟩
    ·left;rw [q1];exact ⟨rfl,q2⟩
    ·right;rw [q1];exact ⟨rfl,q2⟩
   have hu:s ++ [10,59] ++ t = s ++ 10 :: 59 :: t:=by simp
   have hv:s ++ [10] ++ t = s ++ 10 :: t:=by simp
   rw [hu] at e2 hlaw
   rw [hv] at e3 hlaw
   clear hu hv
   have hka:=JN.kids_len (s:=s) (by omega)
   have hkb:=JN.kids_len (s:=t) (by omega)
   generalize qdr s = r0 at *
   generalize qdr t = r1 at *
   generalize qdr (s ++ 10 :: 59 :: t) = r2 at *
   generalize qdr (s ++ 10 :: t) = r3 at *
   obtain ⟨a,pa,ea⟩:=r0
   obtain ⟨b,pb,eb⟩:=r1
   obtain ⟨x,px,ex⟩:=r2
   obtain ⟨y,py,ey⟩:=r3
   simp only at hlaw
   by_cases hea:ea = 0
   ·by_cases heb:eb = 0
    ·by_cases hk:a.kids = []
     ·subst hea heb
      have hk0:a.kids.length = 0:=by rw [hk];rfl
      clear hlaw
      repeat' (first | refine vs_ ?_ | ((first | refine vr_ ?_ | fail)<;>(try simp only [hk0,go_sem,↓reduceIte])) | ((first | (refine cs_ ?_ ?_<;>intro hc) | refine cj_ ?_ | simp (disch:=omega) only [qk,qbb] | refine qf qbu fun _=>?_ | refine qf e0 fun _=>?_ | refine qf e1 fun _=>?_ | refine qbm qbu ?_ | refine qbm e0 ?_ | refine qbm e1 ?_)<;>(try refine ev_ ?_)) | with_reducible exact ti_)
      all_goals trace_state
     ·have hl:=hlaw hea heb hk
      have hka:=hka hea
      have hkb:=hkb heb
      simp only at hka hkb
      clear hlaw
      subst hea heb
      have hk0:¬ a.kids.length = 0:=fun q=>hk (List.length_eq_zero_iff.1 q)
      unfold k0a
      generalize hz:IC.seq qw7 _ = z1
      repeat' (first | refine vs_ ?_ | ((first | refine vr_ ?_ | fail)<;>(try simp only [hk0,go_sem,↓reduceIte])) | ((first | (refine cs_ ?_ ?_<;>intro hc) | refine cj_ ?_ | simp (disch:=omega) only [qk,qbb] | refine qf qbu fun _=>?_ | refine qf e0 fun _=>?_ | refine qf e1 fun _=>?_ | refine qf e2 fun _=>?_ | refine qf e3 fun _=>?_ | refine qbm qbu ?_ | refine qbm e0 ?_ | refine qbm e1 ?_ | refine qbm e2 ?_ | refine qbm e3 ?_)<;>(try refine ev_ ?_)) | with_reducible exact ti_)
      subst hz
      refine qbmh (S:=Unit) (fun _=>True) (fun _=>(⟨[(12,.ptr 0 0),(14,.int .i64 ex),(15,.ptr 1 0),(17,.int .i64 ey),(18,.ptr 3 0)],[]⟩,[.blk (nc x),.blk (nc y),.app 5 (encs a.kids ++ encs b.kids),.blk [.int .i64 37,.int .i64 0,.int .i64 0,.str [],.row 2 (a.kids.length + b.kids.length)]])) ?_ fun _ _=>?_
      ·unfold qw7
       have c1:=cap1 (n:=a.kids.length) (by omega)
       have c2:=cap1 (n:=a.kids.length + b.kids.length) (by omega)
       by_cases hb0:b.kids.length = 0
       ·have hb1:b.kids = []:=List.length_eq_zero_iff.1 hb0
        refine q9e 2 5 7 [0,1,2,3,4,5,6,7,8] [7,0,1,2,3,4,5,6,8] [0,1,2,7,3,4,5,6,8] jn1 jn2 jn3 (by rfl) (by rfl) (by rfl) (by rfl) ?_ ?_ ?_
        ·unfold jn1
         rw [hb1]
         (simp (disch:=first | omega | (simp only [List.length_set,List.length_append,List.length_cons,List.length_nil];done) | (simp only [List.length_set,List.length_append,List.length_cons,List.length_nil];omega)) only [hk0,hb0,go_sem,↓reduceIte])
         refine ⟨c1,c1,?_⟩
         refine qb1 () [2,3,5,6] trivial rfl (by simp) ?_ ?_ ?_<;>(try refine ev_ ?_)<;>(try with_reducible exact ti_)<;>(try simp (disch:=omega) only [qbb,and_true,true_and])
         all_goals (rw [qgr];exact ⟨qr _ _,by rw [q6]⟩)
        ·unfold jn2
         rw [hb1]
         (simp (disch:=first | omega | (simp only [List.length_set,List.length_append,List.length_cons,List.length_nil];done) | (simp only [List.length_set,List.length_append,List.length_cons,List.length_nil];omega)) only [hk0,hb0,go_sem,↓reduceIte])
         refine ⟨c1,c1,?_⟩
         refine qb1 () [2,3,6,4] trivial rfl (by simp) ?_ ?_ ?_<;>(try refine ev_ ?_)<;>(try with_reducible exact ti_)<;>(try simp (disch:=omega) only [qbb,and_true,true_and])
         all_goals (rw [qgr];exact ⟨qr _ _,by rw [q6]⟩)
        ·unfold jn3
         rw [hb1]
         (simp (disch:=first | omega | (simp only [List.length_set,List.length_append,List.length_cons,List.length_nil];done) | (simp only [List.length_set,List.length_append,List.length_cons,List.length_nil];omega)) only [hk0,hb0,go_sem,↓reduceIte])
         refine ⟨c1,c1,?_⟩
         refine qb1 () [2,3,6,5] trivial rfl (by simp) ?_ ?_ ?_<;>(try refine ev_ ?_)<;>(try with_reducible exact ti_)<;>(try simp (disch:=omega) only [qbb,and_true,true_and])
         all_goals (rw [qgr];exact ⟨qr _ _,by rw [q6]⟩)
       ·refine q9e 2 5 7 [0,1,2,3,4,5,6,7,8] [7,0,1,2,3,4,5,6,8] [0,1,2,7,3,4,5,6,8] jn1 jn2 jn3 (by rfl) (by rfl) (by rfl) (by rfl) ?_ ?_ ?_
        ·unfold jn1
         (simp (disch:=first | omega | (simp only [List.length_set,List.length_append,List.length_cons,List.length_nil];done) | (simp only [List.length_set,List.length_append,List.length_cons,List.length_nil];omega)) only [hk0,hb0,go_sem,↓reduceIte])
         refine ⟨c1,c2,?_⟩
         refine qb1 () [2,3,5,6] trivial rfl (by simp) ?_ ?_ ?_<;>(try refine ev_ ?_)<;>(try with_reducible exact ti_)<;>(try simp (disch:=omega) only [qbb,and_true,true_and])
         all_goals (rw [qgr];exact ⟨qr _ _,by rw [q6]⟩)
        ·unfold jn2
         (simp (disch:=first | omega | (simp only [List.length_set,List.length_append,List.length_cons,List.length_nil];done) | (simp only [List.length_set,List.length_append,List.length_cons,List.length_nil];omega)) only [hk0,hb0,go_sem,↓reduceIte])
         refine ⟨c1,c2,?_⟩
         refine qb1 () [2,3,6,4] trivial rfl (by simp) ?_ ?_ ?_<;>(try refine ev_ ?_)<;>(try with_reducible exact ti_)<;>(try simp (disch:=omega) only [qbb,and_true,true_and])
         all_goals (rw [qgr];exact ⟨qr _ _,by rw [q6]⟩)
        ·unfold jn3
         (simp (disch:=first | omega | (simp only [List.length_set,List.length_append,List.length_cons,List.length_nil];done) | (simp only [List.length_set,List.length_append,List.length_cons,List.length_nil];omega)) only [hk0,hb0,go_sem,↓reduceIte])
         refine ⟨c1,c2,?_⟩
         refine qb1 () [2,3,6,5] trivial rfl (by simp) ?_ ?_ ?_<;>(try refine ev_ ?_)<;>(try with_reducible exact ti_)<;>(try simp (disch:=omega) only [qbb,and_true,true_and])
         all_goals (rw [qgr];exact ⟨qr _ _,by rw [q6]⟩)
      ·rw [qgr]
       have f1:=qrp x (qew (a.kids ++ b.kids))
       have f2:=qrp y (qew (a.kids ++ b.kids))
       generalize qit x (qew (a.kids ++ b.kids)) = u at f1 hl
       generalize qit y (qew (a.kids ++ b.kids)) = v at f2 hl
       have f1:qc9 Try.prog 11 [enc x,.agg [.int .i64 37,.int .i64 0,.int .i64 0,.str [],.sl 5 (encs (a.kids ++ b.kids))]] (.bool u):=by rw [← q9k];exact f1
       have f2:qc9 Try.prog 11 [enc y,.agg [.int .i64 37,.int .i64 0,.int .i64 0,.str [],.sl 5 (encs (a.kids ++ b.kids))]] (.bool v):=by rw [← q9k];exact f2
       by_cases hx:ex = 0
       ·by_cases hy:ey = 0
        ·cases u<;>cases v
         all_goals (repeat' (first | refine vs_ ?_ | ((first | refine vr_ ?_ | fail)<;>(try simp only [hx,hy,decide_true,decide_false,go_sem,↓reduceIte])) | ((first | (refine cs_ ?_ ?_<;>intro hc) | refine cj_ ?_ | simp (disch:=omega) only [qk,qbb] | refine qf f1 fun _=>?_ | refine qf f2 fun _=>?_ | refine qf qbu fun _=>?_ | refine qbm f1 ?_ | refine qbm f2 ?_ | refine qbm qbu ?_)<;>(try refine ev_ ?_)) | with_reducible exact ti_))
         all_goals first | (exfalso;revert hl;simp;done) | trace_state
        ·cases u
         all_goals (repeat' (first | refine vs_ ?_ | ((first | refine vr_ ?_ | fail)<;>(try simp only [hx,hy,decide_true,decide_false,go_sem,↓reduceIte])) | ((first | (refine cs_ ?_ ?_<;>intro hc) | refine cj_ ?_ | simp (disch:=omega) only [qk,qbb] | refine qf f1 fun _=>?_ | refine qf qbu fun _=>?_ | refine qbm f1 ?_ | refine qbm qbu ?_)<;>(try refine ev_ ?_)) | with_reducible exact ti_))
         all_goals first | (exfalso;revert hl;simp [hy];done) | trace_state
       ·by_cases hy:ey = 0
        ·cases v
         all_goals (repeat' (first | refine vs_ ?_ | ((first | refine vr_ ?_ | fail)<;>(try simp only [hx,hy,decide_true,decide_false,go_sem,↓reduceIte])) | ((first | (refine cs_ ?_ ?_<;>intro hc) | refine cj_ ?_ | simp (disch:=omega) only [qk,qbb] | refine qf f2 fun _=>?_ | refine qf qbu fun _=>?_ | refine qbm f2 ?_ | refine qbm qbu ?_)<;>(try refine ev_ ?_)) | with_reducible exact ti_))
         all_goals first | (exfalso;revert hl;simp [hx];done) | trace_state
        ·exfalso;revert hl;simp [hx,hy]
    ·clear hlaw
     repeat' (first | refine vs_ ?_ | ((first | refine vr_ ?_ | fail)<;>(try simp only [heb,go_sem,↓reduceIte])) | ((first | (refine cs_ ?_ ?_<;>intro hc) | refine cj_ ?_ | simp (disch:=omega) only [qk,qbb] | refine qf qbu fun _=>?_ | refine qf e0 fun _=>?_ | refine qf e1 fun _=>?_ | refine qbm qbu ?_ | refine qbm e0 ?_ | refine qbm e1 ?_)<;>(try refine ev_ ?_)) | with_reducible exact ti_)
     all_goals contradiction
   ·clear hlaw
    repeat' (first | refine vs_ ?_ | ((first | refine vr_ ?_ | fail)<;>(try simp only [hea,go_sem,↓reduceIte])) | ((first | (refine cs_ ?_ ?_<;>intro hc) | refine cj_ ?_ | simp (disch:=omega) only [qk,qbb] | refine qf qbu fun _=>?_ | refine qf e0 fun _=>?_ | refine qf e1 fun _=>?_ | refine qbm qbu ?_ | refine qbm e0 ?_ | refine qbm e1 ?_)<;>(try refine ev_ ?_)) | with_reducible exact ti_)
    all_goals contradiction
  ·repeat' (first | refine vs_ ?_ | ((first | refine vr_ ?_ | refine qf qbu fun _=>?_ | refine qbm qbu ?_ | (refine cs_ ?_ ?_<;>intro hc) | refine cj_ ?_ | simp (disch:=omega) only [qk,qbb])<;>(try refine ev_ ?_)) | with_reducible exact ti_)
   all_goals (exfalso;omega)
 ·repeat' (first | refine vs_ ?_ | ((first | refine vr_ ?_ | refine qf qbu fun _=>?_ | refine qbm qbu ?_ | (refine cs_ ?_ ?_<;>intro hc) | refine cj_ ?_ | simp (disch:=omega) only [qk,qbb])<;>(try refine ev_ ?_)) | with_reducible exact ti_)
  all_goals (exfalso;omega)
end Go.Proofs.Ytfjbmjplnmaclaa
