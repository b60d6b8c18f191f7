/- A text of this proof. -/
import Derived.Test.YtlmcofjcpadmiaaGreatWaz
import Derived.Test.YtlmcofjcpadmiaaGreatWba
set_option linter.unusedVariables false
set_option linter.unusedSimpArgs false

/- trees that are written: the program's walk: expressions, bindings -/
set_option maxRecDepth 4000
namespace Go.Proofs.YtlmcofjcpadmiaaGreat
open Go Go.RowKit Go.V

def PE (n:N):Prop:=qh Tryz.prog 46 [.iface 39 (enc n)] (.str (ptE n))
def PD (n:N):Prop:=qh Tryz.prog 46 [.iface 40 (enc n)] (.str (ptD n))
theorem qzf {n:N} (h:qh Tryz.prog 86 [enc n] (.str (ptE n))):PE n:=by
 refine qe c0m (by simp) (by simp only [AV.bds,qf5];rfl) rfl fun hw=>?_
 repeat' (first | refine vs_ ?_ | ((first | refine vr_ ?_ | refine qa h fun _=>?_ | (refine cs_ ?_ ?_<;>intro hc) | refine cj_ ?_ | fail)<;>(try refine ev_ ?_)) | with_reducible exact ti_)
theorem qee {n:N} (h:qh Tryz.prog 87 [enc n] (.str (ptD n))):PD n:=by
 refine qe c0m (by simp) (by simp only [AV.bds,qf5];rfl) rfl fun hw=>?_
 repeat' (first | refine vs_ ?_ | ((first | refine vr_ ?_ | refine qa h fun _=>?_ | (refine cs_ ?_ ?_<;>intro hc) | refine cj_ ?_ | fail)<;>(try refine ev_ ?_)) | with_reducible exact ti_)
def ncE (n:N):Ent:=.blk [.int .i64 n.kind,.int .i64 n.pos,.int .i64 n.num,.str n.text,.sl 5 (encs n.kids)]
theorem qzv (k:Nat) (n:N):(ncE n).bd k = true:=by simp only [ncE,Ent.bd,AV.bds,AV.bd,qm1];rfl
theorem qoy:∀ {H:List Ent} {i:Nat} {e:Ent},ent H i = e->i < H.length->H.set i e = H
 | [],_,_,_,h=>by simp at h
 | x :: H,0,e,he,_=>by rw [show e = x from he.symm];rfl
 | x :: H,i + 1,e,he,h=>by rw [List.set_cons_succ,qoy (H:=H) he (by simpa using h)]
theorem qbhx {n:N} {i:Nat} (hi:i < n.kids.length) (h:PE (n.kids.getD i N0)):VM Tryz.prog 135 (ncE n) (ncE n) [.int .i64 i,.ptr 0 0] (.str (ptE (n.kids.getD i N0))):=by
 refine qeb c0n 1 (by simp) (by simp) ?_
 unfold PE at h
 have g0:(encs n.kids).getD i .junk = enc (n.kids.getD i N0):=qb hi
 unfold ncE
 repeat' (first | refine vs_ ?_ | ((first | refine vr_ ?_ | fail)<;>(try simp only [g0,Int.toNat_natCast,go_sem,↓reduceIte])) | ((first | (refine cs_ ?_ ?_<;>intro hc) | refine cj_ ?_ | simp (disch:=omega) only [qb,qf] | refine qa h fun _=>?_)<;>(try refine ev_ ?_)) | with_reducible exact ti_)
section
variable {H:List Ent} {Q:List Ent->VO->Prop} {rs:List AV} {Kk:Md->AV->List Ent->Prop} {n:N} {z:Int}
theorem qiq {x:N} (j i:Nat) (hi:i < n.kids.length) (h:PE x) (hq:Q H (.val (.str (ptE x)))) (hx:n.kids.getD i N0 = x:=by rfl) (hz:z = (i:Int):=by first | rfl | omega) (he:ent H j = ncE n:=by rfl) (hj:j < H.length:=by simp):VApp Tryz.prog H (.fn 135 [] [.ptr j 0]) [.int .i64 z] Q:=by
 subst hz
 subst hx
 refine qbk0 j (qbhx hi h) ?_ (qzv 0 n) (qzv 0 n) hj he rfl
 rw [qoy he hj]
 exact hq
theorem qof {x:N} (j i:Nat) (hi:i < n.kids.length) (h:PE x) (hq:Kk .here (.str (ptE x)) H) (hx:n.kids.getD i N0 = x:=by rfl) (hz:z = (i:Int):=by first | rfl | omega) (he:ent H j = ncE n:=by rfl) (hj:j < H.length:=by simp):DApp Tryz.prog H (.fn 135 [] [.ptr j 0]) [.int .i64 z] rs Kk :=
 .inl ⟨_,qiq j i hi h ⟨rfl,rfl⟩ hx hz he hj,hq⟩
end
theorem qe0 (s:List UInt8) (hl:s.length + 4≤Big):qh Tryz.prog 137 [.str s] (.str (brW s)):=by
 refine qe c0o (by simp) (by simp only [go_sem]) rfl fun hw=>?_
 have hM:=qca
 by_cases h:s = []
 ·subst h
  repeat' (first | refine vs_ ?_ | ((first | refine vr_ ?_ | (refine cs_ ?_ ?_<;>intro hc) | refine cj_ ?_ | simp (disch:=omega) only [qb,qf])<;>(try refine ev_ ?_)) | with_reducible exact ti_)
  all_goals rfl
 ·have e:brW s = 123 :: 32 :: (s ++ [32,125]):=by rw [brW,if_neg h];rfl
  rw [e]
  repeat' (first | refine vs_ ?_ | ((first | refine vr_ ?_ | fail)<;>(try simp only [h,decide_false,List.length_append,go_sem,↓reduceIte])) | ((first | (refine cs_ ?_ ?_<;>intro hc) | refine cj_ ?_ | simp (disch:=omega) only [qb,qf])<;>(try refine ev_ ?_)) | with_reducible exact ti_)
theorem qe9 (s:List UInt8):s.length≤(brW s).length∧2≤(brW s).length:=by
 unfold brW
 split
 ·rename_i h;subst h;simp
 ·simp only [List.length_append,List.length_cons,List.length_nil];omega
theorem qcx {l:List N} {g:N->List UInt8} (h:∀ x∈l,PD x∧ptD x = g x) (hl:(Lib.join (l.map g) smW).length + 4≤Big) (hn:l.length≤1000000):qh Tryz.prog 136 [.sl 5 (encs l)] (.str (brW (Lib.join (l.map g) smW))):=by
 refine qe c0p (by simp) (by simp only [go_sem]) rfl fun hw=>?_
 have h1:∀ x∈l,qh Tryz.prog 179 [enc x] (.str (g x)):=fun x hx=>by
  obtain ⟨h1,h2⟩:=h x hx
  rw [← h2]
  unfold PD at h1
  refine qe c0q (by simp) (by simp only [go_sem]) rfl fun hw=>?_
  repeat' (first | refine vs_ ?_ | ((first | refine vr_ ?_ | refine qa h1 fun _=>?_ | (refine cs_ ?_ ?_<;>intro hc) | refine cj_ ?_ | fail)<;>(try refine ev_ ?_)) | with_reducible exact ti_)
 have hj:=q7 (m:=[59,32]) h1 (by show (Lib.join (l.map g) smW).length≤Big;omega) hn
 have hb:=qe0 (Lib.join (l.map g) smW) hl
 have hj:qh Tryz.prog 44 [.sl 5 (encs l),.str [59,32],.fn 179 [] []] (.str (Lib.join (l.map g) smW)):=hj
 repeat' (first | refine vs_ ?_ | ((first | refine vr_ ?_ | refine qa hj fun _=>?_ | refine qa hb fun _=>?_ | (refine cs_ ?_ ?_<;>intro hc) | refine cj_ ?_ | fail)<;>(try refine ev_ ?_)) | with_reducible exact ti_)
theorem qfj {n:N} (h:n.kind = 31∨n.kind = 32):ptD n = ptB n:=by rw [ptD,if_pos h]
theorem qk8 {n:N} (h:biW n = true) (ih:PE (ekN n 0)) (hl:(ptB n).length + 4≤Big):PD n:=by
 obtain ⟨h1,h2,h3,h4,h5⟩:=qds h
 have hkl:n.kids.length = 1:=by rw [h4];rfl
 refine qee (qe c0j (by simp) (by simp only [go_sem]) rfl fun hw=>?_)
 have hM:=qca
 have he:ptB n = n.text ++ ([32,61,32] ++ ptE (ekN n 0)):=by rw [qft,if_pos h1,if_pos (by omega)];rfl
 rw [qfj (.inl h1)]
 rw [he] at hl ⊢
 simp only [List.length_append,List.length_cons,List.length_nil] at hl
 have g0:(encs n.kids).getD 0 .junk = enc (ekN n 0):=qb (by omega)
 unfold PE at ih
 repeat' (first | refine vs_ ?_ | ((first | refine vr_ ?_ | fail)<;>(try simp only [h1,g0,hkl,List.length_append,go_sem,↓reduceIte])) | ((first | (refine cs_ ?_ ?_<;>intro hc) | refine cj_ ?_ | simp (disch:=omega) only [qb,qf] | refine qa ih fun _=>?_ | refine qc ih ?_)<;>(try refine ev_ ?_)) | with_reducible exact ti_)
 all_goals try (exfalso;revert hc;decide)
 all_goals simp
theorem qno {n:N} (h:sgW n = true) (hs:sz n≤1000000) (hl:(ptB n).length + 4≤Big):PD n:=by
 obtain ⟨h1,h2,h3,h4,h5⟩:=qeu h
 have hkl:n.kids.length = 1:=by rw [h4];rfl
 refine qee (qe c0j (by simp) (by simp only [go_sem]) rfl fun hw=>?_)
 have hM:=qca
 have he:ptB n = n.text ++ ([32,58,58,32] ++ quT (ekN n 0)):=by rw [qft,if_neg (by omega)];rfl
 rw [qfj (.inr h1)]
 rw [he] at hl ⊢
 simp only [List.length_append,List.length_cons,List.length_nil] at hl
 have g0:(encs n.kids).getD 0 .junk = enc (ekN n 0):=qb (by omega)
 have hk:=qbm (show ekN n 0∈n.kids from qg (by omega))
 have hq:=qgx h5 (by omega) (by omega)
 repeat' (first | refine vs_ ?_ | ((first | refine vr_ ?_ | fail)<;>(try simp only [h1,g0,hkl,List.length_append,go_sem,↓reduceIte])) | ((first | (refine cs_ ?_ ?_<;>intro hc) | refine cj_ ?_ | simp (disch:=omega) only [qb,qf] | refine qa hq fun _=>?_ | refine qc hq ?_)<;>(try refine ev_ ?_)) | with_reducible exact ti_)
 all_goals try (exfalso;revert hc;decide)
 all_goals simp
theorem qns {n:N} (h:alW n = true) (hs:sz n≤1000000) (ih:PE (ekN n 1)) (hl:(ptL n).length + 4≤Big):qh Tryz.prog 138 [enc n] (.str (ptL n)):=by
 obtain ⟨h1,h2,h3,h4,h5,h6⟩:=qfs h
 have hkl:n.kids.length = 2:=by rw [h4];rfl
 refine qe c0r (by simp) (by simp only [go_sem]) rfl fun hw=>?_
 have hM:=qca
 have he:ptL n = ptP (ekN n 0) ++ ([32,45,62,32] ++ ptE (ekN n 1)):=by rw [qjd,if_pos (by omega)];rfl
 rw [he] at hl ⊢
 simp only [List.length_append,List.length_cons,List.length_nil] at hl
 have g0:(encs n.kids).getD 0 .junk = enc (ekN n 0):=qb (by omega)
 have g1:(encs n.kids).getD 1 .junk = enc (ekN n 1):=qb (by omega)
 have hk:=qbm (show ekN n 0∈n.kids from qg (by omega))
 have hp:=qgo _ h5 (by omega) (by omega)
 unfold PE at ih
 unfold PP at hp
 repeat' (first | refine vs_ ?_ | ((first | refine vr_ ?_ | fail)<;>(try simp only [g0,g1,hkl,List.length_append,go_sem,↓reduceIte])) | ((first | (refine cs_ ?_ ?_<;>intro hc) | refine cj_ ?_ | simp (disch:=omega) only [qb,qf] | refine qa ih fun _=>?_ | refine qa hp fun _=>?_ | refine qc ih ?_ | refine qc hp ?_)<;>(try refine ev_ ?_)) | with_reducible exact ti_)
 all_goals simp
end Go.Proofs.YtlmcofjcpadmiaaGreat
