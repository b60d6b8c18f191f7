/- Texts of this proof, joined. -/
import Derived.Test.YtgglaabljlhliaaGreatLbi
import Derived.Test.YtgglaabljlhliaaGreatLbz
import Derived.Test.YtgglaabljlhliaaGreatLbf
import Derived.Test.YtgglaabljlhliaaGreatLbv
import Derived.Test.YtgglaabljlhliaaGreatLby
set_option linter.unusedVariables false
set_option linter.unusedSimpArgs false

/- instances' heads: few, awake -/
set_option maxRecDepth 4000
namespace Go.Proofs.YtgglaabljlhliaaGreat
open Go Go.RowKit Go.V

theorem qkj {l:List Pd} (h:fewP l = true):qk Tryz.prog 20 [.sl 4 (qg l)] (.int .i64 1):=qgs (qb58 l) (by rw [h];rfl)
theorem qwv {l:List Pd} (h:fewP l = false):qk Tryz.prog 20 [.sl 4 (qg l)] (.int .i64 0):=qgs (qb58 l) (by rw [h];rfl)
def fewI (l:List Ins):Bool:=decide (l.length≤12) && l.all fun x=>fewP x.ps && decide (x.n≤200)
theorem qb61 (l:List Ins):qk Tryz.prog 38 [.sl 4 (qbv l)] (.int .i64 (if fewI l = true then 1 else 0)):=by
 refine qd c0ef (by simp) (by simp only [go_sem]) rfl fun hw=>?_
 have hl:=(qe3 hw.1).1
 have h10:decide ((1:Int) = 0) = false:=rfl
 by_cases h12:l.length≤12
 case neg =>
  have:fewI l = false:=by rw [fewI,decide_eq_false h12,Bool.false_and]
  rw [this]
  repeat' (first | refine vs_ ?_ | ((first | refine vr_ ?_ | (refine cs_ ?_ ?_<;>intro hc) | refine cj_ ?_ | simp (disch:=omega) only [encs_getN,qb])<;>(try refine ev_ ?_)) | with_reducible exact ti_)
  all_goals first | (exfalso;omega) | rfl
 repeat' (first | refine vs_ ?_ | ((first | refine vr_ ?_ | (refine cs_ ?_ ?_<;>intro hc) | refine cj_ ?_ | simp (disch:=omega) only [encs_getN,qb])<;>(try refine ev_ ?_)) | with_reducible exact ti_)
 all_goals try (exfalso;omega)
 refine qj (S:=Nat) (fun i=>i≤l.length∧(l.take i).all (fun x=>fewP x.ps && decide (x.n≤200)) = true) (fun i=>(⟨[(0,.sl 4 (qbv l)),(3,.int .i64 i)],[]⟩,[])) (fun i=>l.length - i) ?_ fun i hi=>?_
 ·refine qf 0 [] ⟨Nat.zero_le _,rfl⟩ rfl (by simp) ?_ ?_ ?_<;>(try refine ev_ ?_)<;>(try with_reducible exact ti_)<;>(try simp (disch:=omega) only [qb,and_true,true_and])
 ·obtain ⟨hi,ha⟩:=hi
  by_cases hlt:i < l.length
  ·have hg:=qe1 hlt
   have hnx:(l.take (i + 1)).all (fun x=>fewP x.ps && decide (x.n≤200)) = (fewP (l.getD i I0).ps && decide ((l.getD i I0).n≤200)):=by
    have h1:l.take (i + 1) = l.take i ++ [l.getD i I0]:=by
     rw [List.take_add_one,List.getD_eq_getElem?_getD,List.getElem?_eq_getElem hlt];rfl
    rw [h1,List.all_append,ha];simp
   have hno:(fewP (l.getD i I0).ps && decide ((l.getD i I0).n≤200)) = false->fewI l = false:=fun h=>by
    cases hf:fewI l with
    | false=>rfl
    | true =>
      rw [fewI,Bool.and_eq_true] at hf
      rw [List.all_eq_true.1 hf.2 _ (qcq hlt)] at h
      cases h
   cases hp:fewP (l.getD i I0).ps with
   | false =>
     rw [hno (by rw [hp];rfl)]
     repeat' (first | refine vs_ ?_ | ((first | refine vr_ ?_ | fail)<;>(try simp only [hg,go_sem,↓reduceIte])) | ((first | simp (disch:=omega) only [hg] | (refine cs_ ?_ ?_<;>intro hc) | refine cj_ ?_ | simp (disch:=omega) only [encs_getN,qb] | refine qa (qwv hp) fun _=>?_)<;>(try refine ev_ ?_)) | with_reducible exact ti_)
     all_goals try (exfalso;omega)
     all_goals rfl
   | true =>
     rw [hp,Bool.true_and] at hnx hno
     by_cases hn:(l.getD i I0).n≤200
     ·repeat' (first | refine vs_ ?_ | ((first | refine vr_ ?_ | fail)<;>(try simp (disch:=first | omega | (simp only [List.length_set,List.length_append,List.length_cons,List.length_nil];done) | (simp only [List.length_set,List.length_append,List.length_cons,List.length_nil];omega)) only [h10,hg,qb,go_sem,↓reduceIte])) | ((first | simp (disch:=omega) only [hg] | (refine cs_ ?_ ?_<;>intro hc) | refine cj_ ?_ | simp (disch:=omega) only [encs_getN,qb] | refine qa (qkj hp) fun _=>?_)<;>(try refine ev_ ?_)) | with_reducible exact ti_)
      all_goals try (exfalso;omega)
      refine qf (i + 1) [] ⟨⟨by omega,by rw [hnx,decide_eq_true hn]⟩,by omega⟩ rfl (by simp) ?_ ?_ ?_<;>(try refine ev_ ?_)<;>(try with_reducible exact ti_)<;>(try simp (disch:=omega) only [qb,and_true,true_and])
     ·rw [hno (decide_eq_false hn)]
      repeat' (first | refine vs_ ?_ | ((first | refine vr_ ?_ | fail)<;>(try simp (disch:=first | omega | (simp only [List.length_set,List.length_append,List.length_cons,List.length_nil];done) | (simp only [List.length_set,List.length_append,List.length_cons,List.length_nil];omega)) only [h10,hg,qb,go_sem,↓reduceIte])) | ((first | simp (disch:=omega) only [hg] | (refine cs_ ?_ ?_<;>intro hc) | refine cj_ ?_ | simp (disch:=omega) only [encs_getN,qb] | refine qa (qkj hp) fun _=>?_)<;>(try refine ev_ ?_)) | with_reducible exact ti_)
      all_goals try (exfalso;omega)
      all_goals rfl
  ·have hie:i = l.length:=by omega
   subst hie
   rw [List.take_length] at ha
   have:fewI l = true:=by rw [fewI,decide_eq_true h12,ha];rfl
   rw [this]
   repeat' (first | refine vs_ ?_ | ((first | refine vr_ ?_ | (refine cs_ ?_ ?_<;>intro hc) | refine cj_ ?_ | simp (disch:=omega) only [encs_getN,qb])<;>(try refine ev_ ?_)) | with_reducible exact ti_)
   all_goals try (exfalso;omega)
theorem qpj {l:List Pd} (hl:l.length≤maxLen) (h:fewP l = true):l.length≤30∧∀ p∈l,szY p.ty≤20000∧dpY p.ty≤300:=by
 rw [fewP,Bool.and_eq_true,decide_eq_true_eq] at h
 refine ⟨h.1,fun p hp=>?_⟩
 have:=qbhg (l:=l.map Pd.ty) (by rw [List.length_map];exact hl) h.2
 have hm:p.ty∈l.map Pd.ty:=List.mem_map_of_mem hp
 have h1:=qiv hm
 have h2:=qkh hm
 omega
theorem qxn {l:List Ins} (hw:∀ x∈l,x.ps.length≤maxLen) (h:fewI l = true):∀ x∈l,smlI x∧x.ps.length≤30∧x.n≤200:=fun x hx=>by
 rw [fewI,Bool.and_eq_true] at h
 have h1:=List.all_eq_true.1 h.2 x hx
 simp only [Bool.and_eq_true,decide_eq_true_eq] at h1
 obtain ⟨a,b⟩:=qpj (hw x hx) h1.1
 exact ⟨⟨by omega,b⟩,a,h1.2⟩
set_option maxRecDepth 4000

def qok (l:List Cls):Bool:=decide (l.length≤9) && l.all fun c=>decide (c.sup.length≤9)
theorem qsd {l:List Cls} (h:qok l = true):fewC l:=by
 rw [qok,Bool.and_eq_true,decide_eq_true_eq] at h
 exact ⟨h.1,fun c hc=>by simpa using List.all_eq_true.1 h.2 c hc⟩
theorem qb60 (l:List Cls):qk Tryz.prog 37 [.sl 3 (qbs l)] (.int .i64 (if qok l = true then 1 else 0)):=by
 refine qd c0ed (by simp) (by simp only [go_sem]) rfl fun hw=>?_
 have hl:=(qgu hw.1).1
 by_cases h9:9 < l.length
 ·have e:qok l = false:=by rw [qok,decide_eq_false (by omega),Bool.false_and]
  have hI:(9:Int) < (l.length:Int):=by omega
  rw [e]
  repeat' (first | refine vs_ ?_ | ((first | refine vr_ ?_ | fail)<;>(try simp only [hI,decide_true,decide_false,go_sem,↓reduceIte])) | ((first | (refine cs_ ?_ ?_<;>intro hc) | refine cj_ ?_ | simp (disch:=omega) only [encs_getN,qb])<;>(try refine ev_ ?_)) | with_reducible exact ti_)
 ·have e:qok l = l.all fun c=>decide (c.sup.length≤9):=by rw [qok,decide_eq_true (by omega),Bool.true_and]
  have hI:¬ (9:Int) < (l.length:Int):=by omega
  rw [e]
  repeat' (first | refine vs_ ?_ | ((first | refine vr_ ?_ | fail)<;>(try simp only [hI,decide_true,decide_false,go_sem,↓reduceIte])) | ((first | (refine cs_ ?_ ?_<;>intro hc) | refine cj_ ?_ | simp (disch:=omega) only [encs_getN,qb])<;>(try refine ev_ ?_)) | with_reducible exact ti_)
  refine qj (S:=Nat) (fun i=>i≤l.length∧(l.drop i).all (fun c=>decide (c.sup.length≤9)) = l.all fun c=>decide (c.sup.length≤9)) (fun i=>(⟨[(0,.sl 3 (qbs l)),(3,.int .i64 i)],[]⟩,[])) (fun i=>l.length - i) ?_ fun i hi=>?_
  ·refine qf 0 [] ⟨Nat.zero_le _,rfl⟩ rfl (by simp) ?_ ?_ ?_<;>(try refine ev_ ?_)<;>(try with_reducible exact ti_)<;>(try simp (disch:=omega) only [qb,and_true,true_and])
  ·obtain ⟨hi,ha⟩:=hi
   by_cases hlt:i < l.length
   ·have hg:=qd7 hlt
    rw [q2s hlt,List.all_cons] at ha
    have hltI:(i:Int) < (l.length:Int):=by omega
    generalize l.getD i C0 = q at *
    by_cases hq:9 < q.sup.length
    ·have hqI:(9:Int) < (q.sup.length:Int):=by omega
     rw [decide_eq_false (show ¬ q.sup.length≤9 by omega),Bool.false_and] at ha
     repeat' (first | refine vs_ ?_ | ((first | refine vr_ ?_ | fail)<;>(try simp (disch:=first | omega | (simp only [List.length_set,List.length_append,List.length_cons,List.length_nil];done) | (simp only [List.length_set,List.length_append,List.length_cons,List.length_nil];omega)) only [hg,hltI,hqI,decide_true,decide_false,qb,List.length_map,go_sem,↓reduceIte])) | ((first | simp (disch:=omega) only [hg] | (refine cs_ ?_ ?_<;>intro hc) | refine cj_ ?_ | simp (disch:=omega) only [encs_getN,qb])<;>(try refine ev_ ?_)) | with_reducible exact ti_)
     all_goals rw [← ha]
     all_goals rfl
    ·have hqI:¬ (9:Int) < (q.sup.length:Int):=by omega
     rw [decide_eq_true (show q.sup.length≤9 by omega),Bool.true_and] at ha
     repeat' (first | refine vs_ ?_ | ((first | refine vr_ ?_ | fail)<;>(try simp (disch:=first | omega | (simp only [List.length_set,List.length_append,List.length_cons,List.length_nil];done) | (simp only [List.length_set,List.length_append,List.length_cons,List.length_nil];omega)) only [hg,hltI,hqI,decide_true,decide_false,qb,List.length_map,go_sem,↓reduceIte])) | ((first | simp (disch:=omega) only [hg] | (refine cs_ ?_ ?_<;>intro hc) | refine cj_ ?_ | simp (disch:=omega) only [encs_getN,qb])<;>(try refine ev_ ?_)) | with_reducible exact ti_)
     refine qf (i + 1) [] ⟨⟨by omega,ha⟩,by omega⟩ rfl (by simp) ?_ ?_ ?_<;>(try refine ev_ ?_)<;>(try with_reducible exact ti_)<;>(try simp (disch:=omega) only [qb,and_true,true_and])
   ·rw [List.drop_of_length_le (by omega),List.all_nil] at ha
    have hltI:¬ (i:Int) < (l.length:Int):=by omega
    repeat' (first | refine vs_ ?_ | ((first | refine vr_ ?_ | fail)<;>(try simp only [hltI,decide_false,go_sem,↓reduceIte])) | ((first | (refine cs_ ?_ ?_<;>intro hc) | refine cj_ ?_ | simp (disch:=omega) only [encs_getN,qb])<;>(try refine ev_ ?_)) | with_reducible exact ti_)
    all_goals rw [← ha]
    all_goals rfl
def fewE (e:Env):Bool:=qok e.cs && fewI e.is
theorem qb1x (e:Env):qk Tryz.prog 19 [encV e] (.int .i64 (if fewE e = true then 1 else 0)):=by
 refine qd c0ee (by simp) (by simp only [go_sem]) rfl fun hw=>?_
 have h22:=qb60 e.cs
 have h23:=qb61 e.is
 unfold fewE
 generalize qok e.cs = a at *
 generalize fewI e.is = b at *
 cases a<;>cases b
 all_goals (repeat' (first | refine vs_ ?_ | ((first | refine vr_ ?_ | refine qa h22 fun _=>?_ | refine qa h23 fun _=>?_ | (refine cs_ ?_ ?_<;>intro hc) | refine cj_ ?_ | fail)<;>(try refine ev_ ?_)) | with_reducible exact ti_))
 all_goals first | rfl | (exfalso;omega)
theorem q20 {e:Env} (h:fewE e = true):qk Tryz.prog 19 [encV e] (.int .i64 1):=qgs (qb1x e) (by rw [h];rfl)
theorem qbdh {e:Env} (h:fewE e = false):qk Tryz.prog 19 [encV e] (.int .i64 0):=qgs (qb1x e) (by rw [h];rfl)
set_option maxRecDepth 4000

def eqW:List UInt8:=[69,113]
def ordW:List UInt8:=[79,114,100]
def tLa:Ty:=⟨[76],0,[Y0]⟩
def pLa:Pd:=⟨eqW,tLa⟩
def pOr:Pd:=⟨ordW,Y0⟩
def pEq:Pd:=⟨eqW,Y0⟩
def P25b:Prf:=.mk 3 0 [Y0] [.mk 2 0 [] [.mk 1 0 [] []]]
theorem qbx7:qk Tryz.prog 22 [.str [76,32,97]] (.tup [encY tLa,.int .i64 0]):=by
 have h:=qyl (qbpb (s:=[76,32,97]) (t:=tLa) (r:=⟨[],0,false⟩) rfl (by decide) (by decide) (by decide) (by decide) (by decide))
 have e:q8v [76,32,97] = (tLa,0):=rfl
 rw [e] at h
 exact h
theorem qb7i:qk Tryz.prog 25 [qb1 (.mk 1 0 [] [])] (.str [35,48]):=q2p rfl rfl
theorem qb64:qk Tryz.prog 25 [qb1 (.mk 2 0 [] [.mk 1 0 [] []])] (.str [35,48,46,48]):=q6e rfl rfl rfl qb7i
theorem qb5d:qk Tryz.prog 25 [qb1 P25b] (.str [64,48,40,35,48,46,48,41]):=q1a rfl rfl rfl qb64 (by decide)
end Go.Proofs.YtgglaabljlhliaaGreat
