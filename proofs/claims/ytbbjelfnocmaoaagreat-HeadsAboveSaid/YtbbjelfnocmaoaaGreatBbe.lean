/- Texts of this proof, joined. -/
import Derived.Test.YtbbjelfnocmaoaaGreatBbc
import Derived.Test.YtbbjelfnocmaoaaGreatBbd
import Derived.Test.YtbbjelfnocmaoaaGreatBav

/- substitutions: new ones, types and their pairs -/
set_option maxRecDepth 4000
namespace Go.Proofs.YtbbjelfnocmaoaaGreat
open Go Go.RowKit Go.V
set_option linter.unusedVariables false
set_option linter.unusedSimpArgs false

theorem qus {l : List Pr} {i : Nat} (h : i < l.length) : l.take (i + 1) = l.take i ++ [l.getD i R0] := by
 rw [List.take_add_one, List.getD_eq_getElem?_getD, List.getElem?_eq_getElem h]; rfl
def smlR (l : List Pr) : Prop := ∀ p ∈ l, szY p.ty ≤ 20000 ∧ dpY p.ty ≤ 300
theorem qwg {l : List Pr} (hs : smlR l) (hl : l.length ≤ 100000) : VCalls Tryz.prog 33 [] [.sl 4 (qbh l)] fun H' o => H' = [subE (newR l)] ∧ o = .val (.ptr 0 0) := by
 refine ql c0n 1 (by simp) (by simp) ?_
 repeat' (first | refine vs_ ?_ | ((first | refine vr_ ?_ | (refine cs_ ?_ ?_ <;> intro hc) | refine cj_ ?_ | simp (disch := omega) only [encs_getN, qb]) <;> (try refine ev_ ?_)) | with_reducible exact ti_)
 refine qbea 0 rfl rfl ?_
 refine qo (S := Nat) (fun i => i ≤ l.length) (fun i => (⟨[(3, .ptr 0 0), (8, .sl 4 (qbh l)), (9, .int .i64 l.length), (10, .int .i64 i)], []⟩, [subE (newR (l.take i))])) (fun i => l.length - i) ?_ fun i hi => ?_
 ·refine qh 0 [0] (Nat.zero_le _) rfl (by simp) ?_ ?_ ?_ <;> simp only [List.take_zero, newR, addR, qmd] <;> (try refine ev_ ?_) <;> (try with_reducible exact ti_) <;> (try simp (disch := omega) only [qb, and_true, true_and])
  all_goals rfl
 ·by_cases hlt : i < l.length
  ·have hok := qqt (l.take i)
   have hln := q1p (l.take i)
   rw [List.length_take] at hln
   have hm := hs _ (qq4 hlt)
   have hn : newR (l.take (i + 1)) = (setR (newR (l.take i)) (l.getD i R0).v (l.getD i R0).ty).1 := by rw [qus hlt, newR, qon]; rfl
   have hp := qb3 hlt
   repeat' (first | refine vs_ ?_ | ((first | refine vr_ ?_ | fail) <;> (try simp (disch := first | omega | (simp only [List.length_set, List.length_append, List.length_cons, List.length_nil]; done) | (simp only [List.length_set, List.length_append, List.length_cons, List.length_nil]; omega)) only [hp, qb, go_sem, ↓reduceIte])) | ((first | simp (disch := omega) only [hp] | (refine cs_ ?_ ?_ <;> intro hc) | refine cj_ ?_ | simp (disch := omega) only [encs_getN, qb] | refine qbw 0 (qiq hok.1 (by omega) _ hm.1 hm.2) ?_) <;> (try refine ev_ ?_)) | with_reducible exact ti_)
   ·refine qh (i + 1) [0] ⟨by omega, by omega⟩ rfl (by simp) ?_ ?_ ?_ <;> simp only [hn] <;> (try refine ev_ ?_) <;> (try with_reducible exact ti_) <;> (try simp (disch := omega) only [qb, and_true, true_and])
    all_goals rw [qw (by omega) (by omega), Int.natCast_add]; rfl
   ·exfalso; omega
  ·have hie : i = l.length := by omega
   subst hie
   rw [List.take_length]
   repeat' (first | refine vs_ ?_ | ((first | refine vr_ ?_ | (refine cs_ ?_ ?_ <;> intro hc) | refine cj_ ?_ | simp (disch := omega) only [encs_getN, qb]) <;> (try refine ev_ ?_)) | with_reducible exact ti_)
   all_goals (exfalso; omega)
set_option maxRecDepth 4000

theorem qv3 {R : World → (Nat → Nat → Prop) → Gh → Prop} {b : Bool} {s : List Pr} (hG : ∀ v, VM Tryz.prog 107 (.cus R) (.cus R) [svA b 0, .int .i64 v] (getV s v)) (hs : okS s) {t : Ty} (h1 : szY t ≤ 20000) (h2 : dpY t ≤ 300) :
 VM Tryz.prog 58 (.cus R) (.cus R) [svA b 0, encY t] (typA (appR s t)) := by
 refine ql c0m 1 (by simp) (by simp) ?_
 have hLg := qch h1 h2
 rw [← qbhr hs]
 by_cases hlg : qg t = true
 ·obtain ⟨q1, q2, q3⟩ := (qs t).1 hlg
  have hput := q5z hG (qpa hs) t (qcn t q3) h1 4096 1 (by omega) (by omega) (by omega) (by omega)
  rw [hlg] at hLg
  by_cases hn : (bput s t 4096 1).1 < 0
  ·have hnd : decide ((bput s t 4096 1).1 < 0) = true := decide_eq_true hn
   rw [appP, if_pos hlg, if_pos hn]
   repeat' (first | refine vs_ ?_ | ((first | refine vr_ ?_ | fail) <;> (try simp only [hnd, go_sem, ↓reduceIte])) | ((first | (refine cs_ ?_ ?_ <;> intro hc) | refine cj_ ?_ | fail | refine qa hLg fun _ => ?_ | refine qqw 3 0 hput (by simp) ?_) <;> (try refine ev_ ?_)) | with_reducible exact ti_)
   all_goals rfl
  ·have hnd : decide ((bput s t 4096 1).1 < 0) = false := decide_eq_false hn
   rw [appP, if_pos hlg, if_neg hn]
   repeat' (first | refine vs_ ?_ | ((first | refine vr_ ?_ | fail) <;> (try simp only [hnd, go_sem, ↓reduceIte])) | ((first | (refine cs_ ?_ ?_ <;> intro hc) | refine cj_ ?_ | fail | refine qa hLg fun _ => ?_ | refine qqw 3 0 hput (by simp) ?_) <;> (try refine ev_ ?_)) | with_reducible exact ti_)
   all_goals rfl
 ·rw [appP, if_neg hlg]
  have hlg : qg t = false := by simpa using hlg
  rw [hlg] at hLg
  repeat' (first | refine vs_ ?_ | ((first | refine vr_ ?_ | refine qa hLg fun _ => ?_ | (refine cs_ ?_ ?_ <;> intro hc) | refine cj_ ?_ | fail) <;> (try refine ev_ ?_)) | with_reducible exact ti_)
  all_goals rfl


section
variable {P : Program} {f : FuncId} {e : Ent} {L : List Ent} {args : List AV} {Q : List Ent → VO → Prop}
theorem qln (h : VCalls P f [] args fun H' o => H' = [e] ∧ o = .val (.ptr 0 0)) (hb : e.bd 0 = true) (ha : AV.bds 0 args = true) (hq : Q (L ++ [e]) (.val (.ptr L.length 0))) : VApp P L (.fn f [] []) args Q := by
 refine q2w h ha fun H1 o ho => ?_
 obtain ⟨rfl, rfl⟩ := ho
 have e1 : qj6 L [] [e] = L ++ [e] := by
  show L ++ [e.ren _] = _
  rw [Ent.ren_bd0 hb]
 rw [e1]
 exact hq
end
theorem qlz : VCalls Tryz.prog 33 [] [.sl 4 []] fun H' o => H' = [subE []] ∧ o = .val (.ptr 0 0) := qwg (l := []) (fun p hp => by simp at hp) (by simp)

def newQ (L : List Ent) (p : List Pr × Int) (H' : List Ent) (o : VO) : Prop :=
 if p.2 = 0 then H' = L ++ [subE p.1] ∧ o = .val (.tup [.ptr L.length 0, .int .i64 0]) else H' = L ∧ o = .val (.tup [.nilp, .int .i64 p.2])


section
variable {L : List Ent} {Q : List Ent → VO → Prop} {s t : List Pr}
theorem qd6 {f : FuncId} {e e' : Ent} {rest : List AV} {r : AV} (i : Nat) (h : VM Tryz.prog f e e' (.ptr 0 0 :: rest) r) (hrest : AV.bds 0 rest = true) (hr : r.bd 0 = true) (hq : Q (L.set i e') (.val r)) (hb : e.bd 0 = true := by rfl) (hb' : e'.bd 0 = true := by rfl) (hi : i < L.length := by simp) (he : ent L i = e := by rfl) :
 VApp Tryz.prog L (.fn f [] []) (.ptr i 0 :: rest) Q := by
 refine qbw i h hq hb hb' hi he hr ?_ ?_
 ·rw [List.append_nil, AV.rens, qr (m := 0) (fun j hj => by omega) rest hrest]; rfl
 ·rw [AV.bds, Bool.and_eq_true]
  exact ⟨rfl, qcp (Nat.zero_le _) _ hrest⟩
theorem q1d (hs : okS s) (hl : s.length ≤ 100000) {ty : Ty} (q1 : szY ty ≤ 20000) (q2 : dpY ty ≤ 300) : VM Tryz.prog 58 (subE s) (subE s) [.ptr 0 0, encY ty] (typA (appR s ty)) :=
 qv3 (b := true) (R := bunR (subH s)) (fun v => qpt hs.1 hl v) hs q1 q2
end
def wT : Ty := ⟨[84], 0, []⟩
def wU : Ty := ⟨[85], 0, []⟩
def wV : Ty := ⟨[86], 0, []⟩
def wB : Ty := ⟨[], 1, []⟩
def wR : Ty := ⟨[45, 62], 0, [wT, wB]⟩
def S1 : List Pr := [⟨0, wT⟩]
def S2 : List Pr := [⟨0, wT⟩, ⟨1, Y0⟩]
def S3 : List Pr := [⟨0, wV⟩]
def S4 : List Pr := [⟨0, wT⟩, ⟨1, wV⟩]
theorem w1 : newR [⟨0, wT⟩, ⟨0, wU⟩] = S1 := by rfl
theorem w3 : newR [⟨0, wV⟩] = S3 := by rfl
theorem S1_ok : okS S1 := w1 ▸ qqt _
theorem qbte : okS S3 := w3 ▸ qqt _
theorem w2 : setR S1 1 Y0 = (S2, 0) := by rfl
theorem qbth : okS S2 := by have := qly S1_ok 1 Y0; rwa [w2] at this
theorem w4 : behR S2 S3 = (S4, 0) := by rfl
theorem S4_ok : okS S4 := by have := q5a qbth qbte; rwa [w4] at this
theorem k1 : VM Tryz.prog 34 (subE S1) (subE S1) [.ptr 0 0, .int .i64 0, encY wT] (.int .i64 6) := qiq S1_ok.1 (by decide) 0 (t := wT) (by decide) (by decide)
theorem k2 : VM Tryz.prog 34 (subE S1) (subE S2) [.ptr 0 0, .int .i64 1, encY Y0] (.int .i64 0) := qiq S1_ok.1 (by decide) 1 (t := Y0) (by decide) (by decide)
theorem k4 : VM Tryz.prog 107 (subE S4) (subE S4) [.ptr 0 0, .int .i64 1] (.tup [encY wV, .bool true]) := qpt S4_ok.1 (by decide) 1
theorem k7 : qj Tryz.prog 28 [encY wR] (.str [84, 32, 45, 62, 32, 98]) := qfg (t := wR) (by decide) (by decide) (by decide)
end Go.Proofs.YtbbjelfnocmaoaaGreat
