/- A text of this proof. -/
import Derived.Test.YtgglaabljlhliaaGreatMbz
import Derived.Test.YtgglaabljlhliaaGreatMca
set_option linter.unusedVariables false
set_option linter.unusedSimpArgs false

/- chapter 25: what follows from something follows from more -/
set_option maxRecDepth 4000
namespace Go.Proofs.YtgglaabljlhliaaGreat
open Go Go.RowKit Go.V

theorem q5d {n:Nat} (h:n≤1000):qbc n 64:=by unfold qbc;omega
theorem qid (a b:List Pd):qn a ++ qn b = qn (a ++ b):=by simp [qn]
theorem qb6:qn [] = []:=rfl
theorem q86 {e:Env} (hw:(encV e).wf) (h:fewE e = true):fewC e.cs∧(∀ x∈e.is,smlI x)∧(∀ x∈e.is,x.ps.length≤30)∧e.is.length≤12:=by
 rw [fewE,Bool.and_eq_true] at h
 have h3:=q66 (l:=e.is) (fun x hx=>(qcq (q32 ((qhd hw.2.2.1).2 x hx)).2.2.2).1) h.2
 refine ⟨qse h.1,fun x hx=>(h3 x hx).1,fun x hx=>(h3 x hx).2.1,?_⟩
 have:=h.2
 rw [fewI,Bool.and_eq_true,decide_eq_true_eq] at this
 exact this.1
theorem qr9 {e:Env} {g l:List Pd} (hw:(encV e).wf) (hg:g.length≤maxLen) (hl:l.length≤maxLen) (h:qrk e g l = true) :
 (fewC e.cs∧(∀ x∈e.is,smlI x)∧(∀ x∈e.is,x.ps.length≤30)∧e.is.length≤12)∧(g.length≤30∧∀ p∈g,szY p.ty≤20000∧dpY p.ty≤300)∧(l.length≤30∧∀ p∈l,szY p.ty≤20000∧dpY p.ty≤300):=by
 rw [qrk,Bool.and_eq_true,Bool.and_eq_true,Bool.and_eq_true] at h
 exact ⟨q86 hw h.1,qjs hg h.2.1,qjs hl h.2.2.1⟩
def me1:List (GI×List Nat):=[(⟨none,some 41,.v (.ld true 3 (.t 3))⟩,[]),(⟨none,some 42,.v (.mov (.t 8))⟩,[]),(⟨none,some 43,.app 4 (.agg [(.str []),(.str []),(.int .i64 0),.nils]) 64 (.sl 4) (.c .nils) (.t 42)⟩,[0]),(⟨none,some 44,.v (.mov (.t 7))⟩,[]),(⟨none,some 45,.app 4 (.agg [(.str []),(.str []),(.int .i64 0),.nils]) 64 (.sl 4) (.t 43) (.t 44)⟩,[0]),(⟨none,some 46,.v (.ld true 4 (.t 5))⟩,[2,4]),(⟨none,some 47,.call (.c (.fn 8 [] [])) [((.t 41),(.agg [(.sl 3),(.sl 3),(.sl 4)])),((.t 45),(.sl 4)),((.t 46),(.agg [.id,.id,.id,(.sl 3)]))]⟩,[]),(⟨none,some 40,.v (.mov (.t 47))⟩,[]),(⟨none,some 48,.v (.ext (.t 40) 0)⟩,[]),(⟨none,some 49,.v (.ext (.t 40) 1)⟩,[]),(⟨none,some 11,.alo [(.int .i64 0),(.int .i64 0),.nils,.nils]⟩,[0,5,6]),(⟨none,none,.st 4 (.agg [.id,.id,(.sl 3),(.sl 4)]) (.t 11) (.t 48)⟩,[]),(⟨none,some 12,.v (.mov (.t 49))⟩,[])]
def me2:List (GI×List Nat):=[(⟨none,some 11,.alo [(.int .i64 0),(.int .i64 0),.nils,.nils]⟩,[]),(⟨none,some 41,.v (.ld true 3 (.t 3))⟩,[0]),(⟨none,some 42,.v (.mov (.t 8))⟩,[]),(⟨none,some 43,.app 4 (.agg [(.str []),(.str []),(.int .i64 0),.nils]) 64 (.sl 4) (.c .nils) (.t 42)⟩,[1]),(⟨none,some 44,.v (.mov (.t 7))⟩,[]),(⟨none,some 45,.app 4 (.agg [(.str []),(.str []),(.int .i64 0),.nils]) 64 (.sl 4) (.t 43) (.t 44)⟩,[1]),(⟨none,some 46,.v (.ld true 4 (.t 5))⟩,[0,3,5]),(⟨none,some 47,.call (.c (.fn 8 [] [])) [((.t 41),(.agg [(.sl 3),(.sl 3),(.sl 4)])),((.t 45),(.sl 4)),((.t 46),(.agg [.id,.id,.id,(.sl 3)]))]⟩,[0]),(⟨none,some 40,.v (.mov (.t 47))⟩,[]),(⟨none,some 48,.v (.ext (.t 40) 0)⟩,[]),(⟨none,some 49,.v (.ext (.t 40) 1)⟩,[]),(⟨none,none,.st 4 (.agg [.id,.id,(.sl 3),(.sl 4)]) (.t 11) (.t 48)⟩,[]),(⟨none,some 12,.v (.mov (.t 49))⟩,[])]
def me3:List (GI×List Nat):=[(⟨none,some 41,.v (.ld true 3 (.t 3))⟩,[]),(⟨none,some 42,.v (.mov (.t 8))⟩,[]),(⟨none,some 43,.app 4 (.agg [(.str []),(.str []),(.int .i64 0),.nils]) 64 (.sl 4) (.c .nils) (.t 42)⟩,[0]),(⟨none,some 11,.alo [(.int .i64 0),(.int .i64 0),.nils,.nils]⟩,[0]),(⟨none,some 44,.v (.mov (.t 7))⟩,[]),(⟨none,some 45,.app 4 (.agg [(.str []),(.str []),(.int .i64 0),.nils]) 64 (.sl 4) (.t 43) (.t 44)⟩,[0]),(⟨none,some 46,.v (.ld true 4 (.t 5))⟩,[2,3,5]),(⟨none,some 47,.call (.c (.fn 8 [] [])) [((.t 41),(.agg [(.sl 3),(.sl 3),(.sl 4)])),((.t 45),(.sl 4)),((.t 46),(.agg [.id,.id,.id,(.sl 3)]))]⟩,[3]),(⟨none,some 40,.v (.mov (.t 47))⟩,[]),(⟨none,some 48,.v (.ext (.t 40) 0)⟩,[]),(⟨none,some 49,.v (.ext (.t 40) 1)⟩,[]),(⟨none,none,.st 4 (.agg [.id,.id,(.sl 3),(.sl 4)]) (.t 11) (.t 48)⟩,[]),(⟨none,some 12,.v (.mov (.t 49))⟩,[])]
def mf1:List (GI×List Nat):=[(⟨none,some 51,.v (.ld true 3 (.t 3))⟩,[]),(⟨none,some 52,.v (.mov (.t 7))⟩,[]),(⟨none,some 53,.app 4 (.agg [(.str []),(.str []),(.int .i64 0),.nils]) 64 (.sl 4) (.c .nils) (.t 52)⟩,[0]),(⟨none,some 54,.v (.mov (.t 8))⟩,[]),(⟨none,some 55,.app 4 (.agg [(.str []),(.str []),(.int .i64 0),.nils]) 64 (.sl 4) (.t 53) (.t 54)⟩,[0]),(⟨none,some 56,.v (.ld true 4 (.t 5))⟩,[2,4]),(⟨none,some 57,.call (.c (.fn 8 [] [])) [((.t 51),(.agg [(.sl 3),(.sl 3),(.sl 4)])),((.t 55),(.sl 4)),((.t 56),(.agg [.id,.id,.id,(.sl 3)]))]⟩,[]),(⟨none,some 50,.v (.mov (.t 57))⟩,[]),(⟨none,some 58,.v (.ext (.t 50) 0)⟩,[]),(⟨none,some 59,.v (.ext (.t 50) 1)⟩,[]),(⟨none,some 13,.alo [(.int .i64 0),(.int .i64 0),.nils,.nils]⟩,[0,5,6]),(⟨none,none,.st 4 (.agg [.id,.id,(.sl 3),(.sl 4)]) (.t 13) (.t 58)⟩,[]),(⟨none,some 14,.v (.mov (.t 59))⟩,[])]
def mf2:List (GI×List Nat):=[(⟨none,some 13,.alo [(.int .i64 0),(.int .i64 0),.nils,.nils]⟩,[]),(⟨none,some 51,.v (.ld true 3 (.t 3))⟩,[0]),(⟨none,some 52,.v (.mov (.t 7))⟩,[]),(⟨none,some 53,.app 4 (.agg [(.str []),(.str []),(.int .i64 0),.nils]) 64 (.sl 4) (.c .nils) (.t 52)⟩,[1]),(⟨none,some 54,.v (.mov (.t 8))⟩,[]),(⟨none,some 55,.app 4 (.agg [(.str []),(.str []),(.int .i64 0),.nils]) 64 (.sl 4) (.t 53) (.t 54)⟩,[1]),(⟨none,some 56,.v (.ld true 4 (.t 5))⟩,[0,3,5]),(⟨none,some 57,.call (.c (.fn 8 [] [])) [((.t 51),(.agg [(.sl 3),(.sl 3),(.sl 4)])),((.t 55),(.sl 4)),((.t 56),(.agg [.id,.id,.id,(.sl 3)]))]⟩,[0]),(⟨none,some 50,.v (.mov (.t 57))⟩,[]),(⟨none,some 58,.v (.ext (.t 50) 0)⟩,[]),(⟨none,some 59,.v (.ext (.t 50) 1)⟩,[]),(⟨none,none,.st 4 (.agg [.id,.id,(.sl 3),(.sl 4)]) (.t 13) (.t 58)⟩,[]),(⟨none,some 14,.v (.mov (.t 59))⟩,[])]
def mf3:List (GI×List Nat):=[(⟨none,some 51,.v (.ld true 3 (.t 3))⟩,[]),(⟨none,some 52,.v (.mov (.t 7))⟩,[]),(⟨none,some 53,.app 4 (.agg [(.str []),(.str []),(.int .i64 0),.nils]) 64 (.sl 4) (.c .nils) (.t 52)⟩,[0]),(⟨none,some 13,.alo [(.int .i64 0),(.int .i64 0),.nils,.nils]⟩,[0]),(⟨none,some 54,.v (.mov (.t 8))⟩,[]),(⟨none,some 55,.app 4 (.agg [(.str []),(.str []),(.int .i64 0),.nils]) 64 (.sl 4) (.t 53) (.t 54)⟩,[0]),(⟨none,some 56,.v (.ld true 4 (.t 5))⟩,[2,3,5]),(⟨none,some 57,.call (.c (.fn 8 [] [])) [((.t 51),(.agg [(.sl 3),(.sl 3),(.sl 4)])),((.t 55),(.sl 4)),((.t 56),(.agg [.id,.id,.id,(.sl 3)]))]⟩,[3]),(⟨none,some 50,.v (.mov (.t 57))⟩,[]),(⟨none,some 58,.v (.ext (.t 50) 0)⟩,[]),(⟨none,some 59,.v (.ext (.t 50) 1)⟩,[]),(⟨none,none,.st 4 (.agg [.id,.id,(.sl 3),(.sl 4)]) (.t 13) (.t 58)⟩,[]),(⟨none,some 14,.v (.mov (.t 59))⟩,[])]
set_option maxHeartbeats 4000000 in
theorem ql2 (e:Env) (two:List Pd×List Pd) (p:Pd):qg Tryz.prog 3 [encV e,.agg [.sl 4 (qn two.1),.sl 4 (qn two.2)],encP p] (.bool true):=by
 refine qd c0da (by simp) (by simp only [go_sem]) rfl fun hw=>?_
 obtain ⟨g,m⟩:=two
 dsimp only at hw ⊢
 have hF:=qp8 e g [p]
 have hF:qg Tryz.prog 6 [encV e,.sl 4 (qn g),.sl 4 [encP p]] (.bool (qrk e g [p])):=hF
 have hF2:=qp8 e m []
 have hF2:qg Tryz.prog 6 [encV e,.sl 4 (qn m),.sl 4 []] (.bool (qrk e m [])):=hF2
 have hgw:g.length≤maxLen:=(qcq hw.2.1.1).1
 have hmw:m.length≤maxLen:=(qcq hw.2.1.2.1).1
 cases h1:qrk e g [p] with
 | false =>
   rw [h1] at hF
   repeat' (first | refine vs_ ?_ | ((first | refine vr_ ?_ | refine qa hF fun _=>?_ | refine qa qe6 fun _=>?_ | refine qc hF ?_ | refine qc qe6 ?_ | (refine cs_ ?_ ?_<;>intro hc) | refine cj_ ?_ | simp (disch:=omega) only [encs_getN,qb])<;>(try refine ev_ ?_)) | with_reducible exact ti_)
 | true =>
   rw [h1] at hF
   cases h2:qrk e m [] with
   | false =>
     rw [h2] at hF2
     repeat' (first | refine vs_ ?_ | ((first | refine vr_ ?_ | refine qa hF fun _=>?_ | refine qa hF2 fun _=>?_ | refine qa qe6 fun _=>?_ | refine qc hF ?_ | refine qc hF2 ?_ | refine qc qe6 ?_ | (refine cs_ ?_ ?_<;>intro hc) | refine cj_ ?_ | simp (disch:=omega) only [encs_getN,qb])<;>(try refine ev_ ?_)) | with_reducible exact ti_)
   | true =>
     rw [h2] at hF2
     obtain ⟨⟨hf,hi,_,_⟩,⟨hgl,hgs⟩,_,hps⟩:=qr9 hw.1 hgw (by simp;unfold maxLen;omega) h1
     obtain ⟨_,⟨hml,hms⟩,_⟩:=qr9 hw.1 hmw (by simp) h2
     have hp:=hps p (by simp)
     have hA:=q14 m hms
     have hms1:∀ q∈m ++ g,szY q.ty≤20000∧dpY q.ty≤300:=fun q hq=>by
      rcases List.mem_append.1 hq with hq | hq
      ·exact hms q hq
      ·exact hgs q hq
     have hms2:∀ q∈g ++ m,szY q.ty≤20000∧dpY q.ty≤300:=fun q hq=>by
      rcases List.mem_append.1 hq with hq | hq
      ·exact hgs q hq
      ·exact hms q hq
     have hB0:=qdt (e:=e) g (p:=p) hf hi hgs hp
     have hB1:=qdt (e:=e) (m ++ g) (p:=p) hf hi hms1 hp
     have hB2:=qdt (e:=e) (g ++ m) (p:=p) hf hi hms2 hp
     have key:(byW e g p).2 = 0->m.all qbk = true->((byW e (m ++ g) p).2 = 0∨(byW e (m ++ g) p).2 = 2)∧((byW e (g ++ m) p).2 = 0∨(byW e (g ++ m) p).2 = 2):=fun k0 kl=>by
      have kg:=(qbbw k0).1.2.1
      exact ⟨qvs (fun q hq=>by simp [hq]) (by rw [List.all_append,kl,kg];rfl) k0,qvs (fun q hq=>by simp [hq]) (by rw [List.all_append,kl,kg];rfl) k0⟩
     have hc1:qbc m.length 64:=q5d (by omega)
     have hc2:qbc g.length 64:=q5d (by omega)
     have hc3:qbc (m.length + g.length) 64:=q5d (by omega)
     have hc4:qbc (g.length + m.length) 64:=q5d (by omega)
     generalize m.all qbk = lg at *
     generalize byW e g p = r0 at *
     obtain ⟨y0,c0⟩:=r0
     unfold fndA at hB0 hB1 hB2
     dsimp only at hB0 key
     generalize byW e (m ++ g) p = r1 at *
     generalize byW e (g ++ m) p = r2 at *
     obtain ⟨y1,c1⟩:=r1
     obtain ⟨y2,c2⟩:=r2
     dsimp only at hB1 hB2 key
     unfold k0da
     generalize hz5:IC.seq qtu _ = z5
     repeat' (first | refine vs_ ?_ | ((first | refine vr_ ?_ | refine qa hF fun _=>?_ | refine qa hF2 fun _=>?_ | refine qa hB0 fun _=>?_ | refine qa qe6 fun _=>?_ | refine qc hF ?_ | refine qc hF2 ?_ | refine qc hB0 ?_ | refine qc qe6 ?_ | (refine cs_ ?_ ?_<;>intro hc) | refine cj_ ?_ | simp (disch:=omega) only [encs_getN,qb])<;>(try refine ev_ ?_)) | with_reducible exact ti_)
     subst hz5
     refine qgv (S:=Unit) (fun _=>True) (fun _=>(⟨[(3,.ptr 0 0),(5,.ptr 1 0),(7,.sl 4 (qn g)),(8,.sl 4 (qn m)),(10,.int .i64 c0),(12,.int .i64 c1)],[]⟩,[.blk (evc e),.blk (pdc p)])) ?_ fun _ _=>?_
     ·unfold qtu
      by_cases hm:m = []
      ·subst hm
       by_cases hg:g = []
       ·subst hg
        refine qfr 2 4 10 [0,1,2,3,4,5,6,7,8,9,10,11,12] [10,0,1,2,3,4,5,6,7,8,9,11,12] [0,1,2,10,3,4,5,6,7,8,9,11,12] me1 me2 me3 (by rfl) (by rfl) (by rfl) (by rfl) ?_ ?_ ?_
        ·unfold me1
         (simp (disch:=first | omega | (simp only [List.length_set,List.length_append,List.length_cons,List.length_nil];done) | (simp only [List.length_set,List.length_append,List.length_cons,List.length_nil];omega)) only [qb6,List.length_nil,go_sem,↓reduceIte])
         refine qc hB1 ?_
         (refine ev_ ?_;(try with_reducible exact ti_))
         refine qf () [0,2] trivial rfl (by simp) ?_ ?_ ?_<;>(try refine ev_ ?_)<;>(try with_reducible exact ti_)<;>(try simp (disch:=omega) only [qb,and_true,true_and])
        ·unfold me2
         (simp (disch:=first | omega | (simp only [List.length_set,List.length_append,List.length_cons,List.length_nil];done) | (simp only [List.length_set,List.length_append,List.length_cons,List.length_nil];omega)) only [qb6,List.length_nil,go_sem,↓reduceIte])
         refine qc hB1 ?_
         (refine ev_ ?_;(try with_reducible exact ti_))
         refine qf () [0,2] trivial rfl (by simp) ?_ ?_ ?_<;>(try refine ev_ ?_)<;>(try with_reducible exact ti_)<;>(try simp (disch:=omega) only [qb,and_true,true_and])
        ·unfold me3
         (simp (disch:=first | omega | (simp only [List.length_set,List.length_append,List.length_cons,List.length_nil];done) | (simp only [List.length_set,List.length_append,List.length_cons,List.length_nil];omega)) only [qb6,List.length_nil,go_sem,↓reduceIte])
         refine qc hB1 ?_
         (refine ev_ ?_;(try with_reducible exact ti_))
         refine qf () [0,2] trivial rfl (by simp) ?_ ?_ ?_<;>(try refine ev_ ?_)<;>(try with_reducible exact ti_)<;>(try simp (disch:=omega) only [qb,and_true,true_and])
       ·have hg0:¬ g.length = 0:=fun h=>hg (List.length_eq_zero_iff.1 h)
        refine qfr 2 4 10 [0,1,2,3,4,5,6,7,8,9,10,11,12] [10,0,1,2,3,4,5,6,7,8,9,11,12] [0,1,2,10,3,4,5,6,7,8,9,11,12] me1 me2 me3 (by rfl) (by rfl) (by rfl) (by rfl) ?_ ?_ ?_
        ·unfold me1
         (simp (disch:=first | omega | (simp only [List.length_set,List.length_append,List.length_cons,List.length_nil];done) | (simp only [List.length_set,List.length_append,List.length_cons,List.length_nil];omega)) only [hg0,qq,qb6,List.length_nil,go_sem,↓reduceIte])
         refine ⟨hc2,?_⟩
         refine qc hB1 ?_
         (refine ev_ ?_;(try with_reducible exact ti_))
         refine qf () [0,2] trivial rfl (by simp) ?_ ?_ ?_<;>(try refine ev_ ?_)<;>(try with_reducible exact ti_)<;>(try simp (disch:=omega) only [qb,and_true,true_and])
        ·unfold me2
         (simp (disch:=first | omega | (simp only [List.length_set,List.length_append,List.length_cons,List.length_nil];done) | (simp only [List.length_set,List.length_append,List.length_cons,List.length_nil];omega)) only [hg0,qq,qb6,List.length_nil,go_sem,↓reduceIte])
         refine ⟨hc2,?_⟩
         refine qc hB1 ?_
         (refine ev_ ?_;(try with_reducible exact ti_))
         refine qf () [0,2] trivial rfl (by simp) ?_ ?_ ?_<;>(try refine ev_ ?_)<;>(try with_reducible exact ti_)<;>(try simp (disch:=omega) only [qb,and_true,true_and])
        ·unfold me3
         (simp (disch:=first | omega | (simp only [List.length_set,List.length_append,List.length_cons,List.length_nil];done) | (simp only [List.length_set,List.length_append,List.length_cons,List.length_nil];omega)) only [hg0,qq,qb6,List.length_nil,go_sem,↓reduceIte])
         refine ⟨hc2,?_⟩
         refine qc hB1 ?_
         (refine ev_ ?_;(try with_reducible exact ti_))
         refine qf () [0,2] trivial rfl (by simp) ?_ ?_ ?_<;>(try refine ev_ ?_)<;>(try with_reducible exact ti_)<;>(try simp (disch:=omega) only [qb,and_true,true_and])
      ·have hm0:¬ m.length = 0:=fun h=>hm (List.length_eq_zero_iff.1 h)
       by_cases hg:g = []
       ·subst hg
        rw [List.append_nil] at hB1
        refine qfr 2 4 10 [0,1,2,3,4,5,6,7,8,9,10,11,12] [10,0,1,2,3,4,5,6,7,8,9,11,12] [0,1,2,10,3,4,5,6,7,8,9,11,12] me1 me2 me3 (by rfl) (by rfl) (by rfl) (by rfl) ?_ ?_ ?_
        ·unfold me1
         (simp (disch:=first | omega | (simp only [List.length_set,List.length_append,List.length_cons,List.length_nil];done) | (simp only [List.length_set,List.length_append,List.length_cons,List.length_nil];omega)) only [hm0,qq,qb6,List.length_nil,List.append_nil,Nat.add_zero,go_sem,↓reduceIte])
         refine ⟨hc1,hc1,?_⟩
         refine qc hB1 ?_
         (refine ev_ ?_;(try with_reducible exact ti_))
         refine qf () [0,2] trivial rfl (by simp) ?_ ?_ ?_<;>(try refine ev_ ?_)<;>(try with_reducible exact ti_)<;>(try simp (disch:=omega) only [qb,and_true,true_and])
        ·unfold me2
         (simp (disch:=first | omega | (simp only [List.length_set,List.length_append,List.length_cons,List.length_nil];done) | (simp only [List.length_set,List.length_append,List.length_cons,List.length_nil];omega)) only [hm0,qq,qb6,List.length_nil,List.append_nil,Nat.add_zero,go_sem,↓reduceIte])
         refine ⟨hc1,hc1,?_⟩
         refine qc hB1 ?_
         (refine ev_ ?_;(try with_reducible exact ti_))
         refine qf () [0,2] trivial rfl (by simp) ?_ ?_ ?_<;>(try refine ev_ ?_)<;>(try with_reducible exact ti_)<;>(try simp (disch:=omega) only [qb,and_true,true_and])
        ·unfold me3
         (simp (disch:=first | omega | (simp only [List.length_set,List.length_append,List.length_cons,List.length_nil];done) | (simp only [List.length_set,List.length_append,List.length_cons,List.length_nil];omega)) only [hm0,qq,qb6,List.length_nil,List.append_nil,Nat.add_zero,go_sem,↓reduceIte])
         refine ⟨hc1,hc1,?_⟩
         refine qc hB1 ?_
         (refine ev_ ?_;(try with_reducible exact ti_))
         refine qf () [0,2] trivial rfl (by simp) ?_ ?_ ?_<;>(try refine ev_ ?_)<;>(try with_reducible exact ti_)<;>(try simp (disch:=omega) only [qb,and_true,true_and])
       ·have hg0:¬ g.length = 0:=fun h=>hg (List.length_eq_zero_iff.1 h)
        refine qfr 2 4 10 [0,1,2,3,4,5,6,7,8,9,10,11,12] [10,0,1,2,3,4,5,6,7,8,9,11,12] [0,1,2,10,3,4,5,6,7,8,9,11,12] me1 me2 me3 (by rfl) (by rfl) (by rfl) (by rfl) ?_ ?_ ?_
        ·unfold me1
         (simp (disch:=first | omega | (simp only [List.length_set,List.length_append,List.length_cons,List.length_nil];done) | (simp only [List.length_set,List.length_append,List.length_cons,List.length_nil];omega)) only [hm0,hg0,qq,qid,go_sem,↓reduceIte])
         refine ⟨hc1,hc3,?_⟩
         refine qc hB1 ?_
         (refine ev_ ?_;(try with_reducible exact ti_))
         refine qf () [0,2] trivial rfl (by simp) ?_ ?_ ?_<;>(try refine ev_ ?_)<;>(try with_reducible exact ti_)<;>(try simp (disch:=omega) only [qb,and_true,true_and])
        ·unfold me2
         (simp (disch:=first | omega | (simp only [List.length_set,List.length_append,List.length_cons,List.length_nil];done) | (simp only [List.length_set,List.length_append,List.length_cons,List.length_nil];omega)) only [hm0,hg0,qq,qid,go_sem,↓reduceIte])
         refine ⟨hc1,hc3,?_⟩
         refine qc hB1 ?_
         (refine ev_ ?_;(try with_reducible exact ti_))
         refine qf () [0,2] trivial rfl (by simp) ?_ ?_ ?_<;>(try refine ev_ ?_)<;>(try with_reducible exact ti_)<;>(try simp (disch:=omega) only [qb,and_true,true_and])
        ·unfold me3
         (simp (disch:=first | omega | (simp only [List.length_set,List.length_append,List.length_cons,List.length_nil];done) | (simp only [List.length_set,List.length_append,List.length_cons,List.length_nil];omega)) only [hm0,hg0,qq,qid,go_sem,↓reduceIte])
         refine ⟨hc1,hc3,?_⟩
         refine qc hB1 ?_
         (refine ev_ ?_;(try with_reducible exact ti_))
         refine qf () [0,2] trivial rfl (by simp) ?_ ?_ ?_<;>(try refine ev_ ?_)<;>(try with_reducible exact ti_)<;>(try simp (disch:=omega) only [qb,and_true,true_and])
     refine qgv (S:=Unit) (fun _=>True) (fun _=>(⟨[(8,.sl 4 (qn m)),(10,.int .i64 c0),(12,.int .i64 c1),(14,.int .i64 c2)],[]⟩,[.blk (evc e),.blk (pdc p)])) ?_ fun _ _=>?_
     ·unfold q0e
      by_cases hg:g = []
      ·subst hg
       by_cases hm:m = []
       ·subst hm
        refine qfr 2 4 10 [0,1,2,3,4,5,6,7,8,9,10,11,12] [10,0,1,2,3,4,5,6,7,8,9,11,12] [0,1,2,10,3,4,5,6,7,8,9,11,12] mf1 mf2 mf3 (by rfl) (by rfl) (by rfl) (by rfl) ?_ ?_ ?_
        ·unfold mf1
         (simp (disch:=first | omega | (simp only [List.length_set,List.length_append,List.length_cons,List.length_nil];done) | (simp only [List.length_set,List.length_append,List.length_cons,List.length_nil];omega)) only [qb6,List.length_nil,go_sem,↓reduceIte])
         refine qc hB2 ?_
         (refine ev_ ?_;(try with_reducible exact ti_))
         refine qf () [0,1] trivial rfl (by simp) ?_ ?_ ?_<;>(try refine ev_ ?_)<;>(try with_reducible exact ti_)<;>(try simp (disch:=omega) only [qb,and_true,true_and])
        ·unfold mf2
         (simp (disch:=first | omega | (simp only [List.length_set,List.length_append,List.length_cons,List.length_nil];done) | (simp only [List.length_set,List.length_append,List.length_cons,List.length_nil];omega)) only [qb6,List.length_nil,go_sem,↓reduceIte])
         refine qc hB2 ?_
         (refine ev_ ?_;(try with_reducible exact ti_))
         refine qf () [0,1] trivial rfl (by simp) ?_ ?_ ?_<;>(try refine ev_ ?_)<;>(try with_reducible exact ti_)<;>(try simp (disch:=omega) only [qb,and_true,true_and])
        ·unfold mf3
         (simp (disch:=first | omega | (simp only [List.length_set,List.length_append,List.length_cons,List.length_nil];done) | (simp only [List.length_set,List.length_append,List.length_cons,List.length_nil];omega)) only [qb6,List.length_nil,go_sem,↓reduceIte])
         refine qc hB2 ?_
         (refine ev_ ?_;(try with_reducible exact ti_))
         refine qf () [0,1] trivial rfl (by simp) ?_ ?_ ?_<;>(try refine ev_ ?_)<;>(try with_reducible exact ti_)<;>(try simp (disch:=omega) only [qb,and_true,true_and])
       ·have hm0:¬ m.length = 0:=fun h=>hm (List.length_eq_zero_iff.1 h)
        refine qfr 2 4 10 [0,1,2,3,4,5,6,7,8,9,10,11,12] [10,0,1,2,3,4,5,6,7,8,9,11,12] [0,1,2,10,3,4,5,6,7,8,9,11,12] mf1 mf2 mf3 (by rfl) (by rfl) (by rfl) (by rfl) ?_ ?_ ?_
        ·unfold mf1
         (simp (disch:=first | omega | (simp only [List.length_set,List.length_append,List.length_cons,List.length_nil];done) | (simp only [List.length_set,List.length_append,List.length_cons,List.length_nil];omega)) only [hm0,qq,qb6,List.length_nil,go_sem,↓reduceIte])
         refine ⟨hc1,?_⟩
         refine qc hB2 ?_
         (refine ev_ ?_;(try with_reducible exact ti_))
         refine qf () [0,1] trivial rfl (by simp) ?_ ?_ ?_<;>(try refine ev_ ?_)<;>(try with_reducible exact ti_)<;>(try simp (disch:=omega) only [qb,and_true,true_and])
        ·unfold mf2
         (simp (disch:=first | omega | (simp only [List.length_set,List.length_append,List.length_cons,List.length_nil];done) | (simp only [List.length_set,List.length_append,List.length_cons,List.length_nil];omega)) only [hm0,qq,qb6,List.length_nil,go_sem,↓reduceIte])
         refine ⟨hc1,?_⟩
         refine qc hB2 ?_
         (refine ev_ ?_;(try with_reducible exact ti_))
         refine qf () [0,1] trivial rfl (by simp) ?_ ?_ ?_<;>(try refine ev_ ?_)<;>(try with_reducible exact ti_)<;>(try simp (disch:=omega) only [qb,and_true,true_and])
        ·unfold mf3
         (simp (disch:=first | omega | (simp only [List.length_set,List.length_append,List.length_cons,List.length_nil];done) | (simp only [List.length_set,List.length_append,List.length_cons,List.length_nil];omega)) only [hm0,qq,qb6,List.length_nil,go_sem,↓reduceIte])
         refine ⟨hc1,?_⟩
         refine qc hB2 ?_
         (refine ev_ ?_;(try with_reducible exact ti_))
         refine qf () [0,1] trivial rfl (by simp) ?_ ?_ ?_<;>(try refine ev_ ?_)<;>(try with_reducible exact ti_)<;>(try simp (disch:=omega) only [qb,and_true,true_and])
      ·have hg0:¬ g.length = 0:=fun h=>hg (List.length_eq_zero_iff.1 h)
       by_cases hm:m = []
       ·subst hm
        rw [List.append_nil] at hB2
        refine qfr 2 4 10 [0,1,2,3,4,5,6,7,8,9,10,11,12] [10,0,1,2,3,4,5,6,7,8,9,11,12] [0,1,2,10,3,4,5,6,7,8,9,11,12] mf1 mf2 mf3 (by rfl) (by rfl) (by rfl) (by rfl) ?_ ?_ ?_
        ·unfold mf1
         (simp (disch:=first | omega | (simp only [List.length_set,List.length_append,List.length_cons,List.length_nil];done) | (simp only [List.length_set,List.length_append,List.length_cons,List.length_nil];omega)) only [hg0,qq,qb6,List.length_nil,List.append_nil,Nat.add_zero,go_sem,↓reduceIte])
         refine ⟨hc2,hc2,?_⟩
         refine qc hB2 ?_
         (refine ev_ ?_;(try with_reducible exact ti_))
         refine qf () [0,1] trivial rfl (by simp) ?_ ?_ ?_<;>(try refine ev_ ?_)<;>(try with_reducible exact ti_)<;>(try simp (disch:=omega) only [qb,and_true,true_and])
        ·unfold mf2
         (simp (disch:=first | omega | (simp only [List.length_set,List.length_append,List.length_cons,List.length_nil];done) | (simp only [List.length_set,List.length_append,List.length_cons,List.length_nil];omega)) only [hg0,qq,qb6,List.length_nil,List.append_nil,Nat.add_zero,go_sem,↓reduceIte])
         refine ⟨hc2,hc2,?_⟩
         refine qc hB2 ?_
         (refine ev_ ?_;(try with_reducible exact ti_))
         refine qf () [0,1] trivial rfl (by simp) ?_ ?_ ?_<;>(try refine ev_ ?_)<;>(try with_reducible exact ti_)<;>(try simp (disch:=omega) only [qb,and_true,true_and])
        ·unfold mf3
         (simp (disch:=first | omega | (simp only [List.length_set,List.length_append,List.length_cons,List.length_nil];done) | (simp only [List.length_set,List.length_append,List.length_cons,List.length_nil];omega)) only [hg0,qq,qb6,List.length_nil,List.append_nil,Nat.add_zero,go_sem,↓reduceIte])
         refine ⟨hc2,hc2,?_⟩
         refine qc hB2 ?_
         (refine ev_ ?_;(try with_reducible exact ti_))
         refine qf () [0,1] trivial rfl (by simp) ?_ ?_ ?_<;>(try refine ev_ ?_)<;>(try with_reducible exact ti_)<;>(try simp (disch:=omega) only [qb,and_true,true_and])
       ·have hm0:¬ m.length = 0:=fun h=>hm (List.length_eq_zero_iff.1 h)
        refine qfr 2 4 10 [0,1,2,3,4,5,6,7,8,9,10,11,12] [10,0,1,2,3,4,5,6,7,8,9,11,12] [0,1,2,10,3,4,5,6,7,8,9,11,12] mf1 mf2 mf3 (by rfl) (by rfl) (by rfl) (by rfl) ?_ ?_ ?_
        ·unfold mf1
         (simp (disch:=first | omega | (simp only [List.length_set,List.length_append,List.length_cons,List.length_nil];done) | (simp only [List.length_set,List.length_append,List.length_cons,List.length_nil];omega)) only [hg0,hm0,qq,qid,go_sem,↓reduceIte])
         refine ⟨hc2,hc4,?_⟩
         refine qc hB2 ?_
         (refine ev_ ?_;(try with_reducible exact ti_))
         refine qf () [0,1] trivial rfl (by simp) ?_ ?_ ?_<;>(try refine ev_ ?_)<;>(try with_reducible exact ti_)<;>(try simp (disch:=omega) only [qb,and_true,true_and])
        ·unfold mf2
         (simp (disch:=first | omega | (simp only [List.length_set,List.length_append,List.length_cons,List.length_nil];done) | (simp only [List.length_set,List.length_append,List.length_cons,List.length_nil];omega)) only [hg0,hm0,qq,qid,go_sem,↓reduceIte])
         refine ⟨hc2,hc4,?_⟩
         refine qc hB2 ?_
         (refine ev_ ?_;(try with_reducible exact ti_))
         refine qf () [0,1] trivial rfl (by simp) ?_ ?_ ?_<;>(try refine ev_ ?_)<;>(try with_reducible exact ti_)<;>(try simp (disch:=omega) only [qb,and_true,true_and])
        ·unfold mf3
         (simp (disch:=first | omega | (simp only [List.length_set,List.length_append,List.length_cons,List.length_nil];done) | (simp only [List.length_set,List.length_append,List.length_cons,List.length_nil];omega)) only [hg0,hm0,qq,qid,go_sem,↓reduceIte])
         refine ⟨hc2,hc4,?_⟩
         refine qc hB2 ?_
         (refine ev_ ?_;(try with_reducible exact ti_))
         refine qf () [0,1] trivial rfl (by simp) ?_ ?_ ?_<;>(try refine ev_ ?_)<;>(try with_reducible exact ti_)<;>(try simp (disch:=omega) only [qb,and_true,true_and])
     repeat' (first | refine vs_ ?_ | ((first | refine vr_ ?_ | refine qa hA fun _=>?_ | refine qa qe6 fun _=>?_ | refine qc hA ?_ | refine qc qe6 ?_ | (refine cs_ ?_ ?_<;>intro hc) | refine cj_ ?_ | simp (disch:=omega) only [encs_getN,qb])<;>(try refine ev_ ?_)) | with_reducible exact ti_)
     all_goals try (exfalso;omega)
     all_goals (exfalso;have k:=key (by omega) (by first | assumption | simp_all);omega)
end Go.Proofs.YtgglaabljlhliaaGreat
