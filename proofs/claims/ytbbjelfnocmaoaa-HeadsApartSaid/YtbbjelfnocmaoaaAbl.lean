/- Texts of this proof, joined. -/
import Derived.Test.YtbbjelfnocmaoaaAbf
import Derived.Test.YtbbjelfnocmaoaaAbk
import Derived.Test.YtbbjelfnocmaoaaAbc

/- instances' heads: few, awake -/
set_option maxRecDepth 4000
namespace Go.Proofs.Ytbbjelfnocmaoaa
open Go Go.RowKit Go.V
set_option linter.unusedVariables false
set_option linter.unusedSimpArgs false

theorem qhl {l : List Pd} (h : fewP l = true) : qk Try.prog 5 [.sl 4 (q7 l)] (.int .i64 1) := qcq (qbhi l) (by rw [h]; rfl)
theorem qph {l : List Pd} (h : fewP l = false) : qk Try.prog 5 [.sl 4 (q7 l)] (.int .i64 0) := qcq (qbhi l) (by rw [h]; rfl)
def fewI (l : List Ins) : Bool := decide (l.length ≤ 12) && l.all fun x => fewP x.ps && decide (x.n ≤ 200)
theorem qbgz (l : List Ins) : qk Try.prog 4 [.sl 4 (qbh l)] (.int .i64 (if fewI l = true then 1 else 0)) := by
 refine qf c0b (by simp) (by simp only [go_sem]) rfl fun hw => ?_
 have hl := (qe7 hw.1).1
 have h10 : decide ((1 : Int) = 0) = false := rfl
 by_cases h12 : l.length ≤ 12
 case neg =>
  have : fewI l = false := by rw [fewI, decide_eq_false h12, Bool.false_and]
  rw [this]
  repeat' (first | refine vs_ ?_ | ((first | refine vr_ ?_ | (refine cs_ ?_ ?_ <;> intro hc) | refine cj_ ?_ | simp (disch := omega) only [encs_getN, qb]) <;> (try refine ev_ ?_)) | with_reducible exact ti_)
  all_goals first | (exfalso; omega) | rfl
 repeat' (first | refine vs_ ?_ | ((first | refine vr_ ?_ | (refine cs_ ?_ ?_ <;> intro hc) | refine cj_ ?_ | simp (disch := omega) only [encs_getN, qb]) <;> (try refine ev_ ?_)) | with_reducible exact ti_)
 all_goals try (exfalso; omega)
 refine qz (S := Nat) (fun i => i ≤ l.length ∧ (l.take i).all (fun x => fewP x.ps && decide (x.n ≤ 200)) = true) (fun i => (⟨[(0, .sl 4 (qbh l)), (3, .int .i64 i)], []⟩, [])) (fun i => l.length - i) ?_ fun i hi => ?_
 ·refine qp 0 [] ⟨Nat.zero_le _, rfl⟩ rfl (by simp) ?_ ?_ ?_ <;> (try refine ev_ ?_) <;> (try with_reducible exact ti_) <;> (try simp (disch := omega) only [qb, and_true, true_and])
 ·obtain ⟨hi, ha⟩ := hi
  by_cases hlt : i < l.length
  ·have hg := qc3 hlt
   have hnx : (l.take (i + 1)).all (fun x => fewP x.ps && decide (x.n ≤ 200)) = (fewP (l.getD i I0).ps && decide ((l.getD i I0).n ≤ 200)) := by
    have h1 : l.take (i + 1) = l.take i ++ [l.getD i I0] := by
     rw [List.take_add_one, List.getD_eq_getElem?_getD, List.getElem?_eq_getElem hlt]; rfl
    rw [h1, List.all_append, ha]; simp
   have hno : (fewP (l.getD i I0).ps && decide ((l.getD i I0).n ≤ 200)) = false → fewI l = false := fun h => by
    cases hf : fewI l with
    | false => rfl
    | true =>
      rw [fewI, Bool.and_eq_true] at hf
      rw [List.all_eq_true.1 hf.2 _ (ql6 hlt)] at h
      cases h
   cases hp : fewP (l.getD i I0).ps with
   | false =>
     rw [hno (by rw [hp]; rfl)]
     repeat' (first | refine vs_ ?_ | ((first | refine vr_ ?_ | fail) <;> (try simp only [hg, go_sem, ↓reduceIte])) | ((first | simp (disch := omega) only [hg] | (refine cs_ ?_ ?_ <;> intro hc) | refine cj_ ?_ | simp (disch := omega) only [encs_getN, qb] | refine qa (qph hp) fun _ => ?_) <;> (try refine ev_ ?_)) | with_reducible exact ti_)
     all_goals try (exfalso; omega)
     all_goals rfl
   | true =>
     rw [hp, Bool.true_and] at hnx hno
     by_cases hn : (l.getD i I0).n ≤ 200
     ·repeat' (first | refine vs_ ?_ | ((first | refine vr_ ?_ | fail) <;> (try simp (disch := first | omega | (simp only [List.length_set, List.length_append, List.length_cons, List.length_nil]; done) | (simp only [List.length_set, List.length_append, List.length_cons, List.length_nil]; omega)) only [h10, hg, qb, go_sem, ↓reduceIte])) | ((first | simp (disch := omega) only [hg] | (refine cs_ ?_ ?_ <;> intro hc) | refine cj_ ?_ | simp (disch := omega) only [encs_getN, qb] | refine qa (qhl hp) fun _ => ?_) <;> (try refine ev_ ?_)) | with_reducible exact ti_)
      all_goals try (exfalso; omega)
      refine qp (i + 1) [] ⟨⟨by omega, by rw [hnx, decide_eq_true hn]⟩, by omega⟩ rfl (by simp) ?_ ?_ ?_ <;> (try refine ev_ ?_) <;> (try with_reducible exact ti_) <;> (try simp (disch := omega) only [qb, and_true, true_and])
     ·rw [hno (decide_eq_false hn)]
      repeat' (first | refine vs_ ?_ | ((first | refine vr_ ?_ | fail) <;> (try simp (disch := first | omega | (simp only [List.length_set, List.length_append, List.length_cons, List.length_nil]; done) | (simp only [List.length_set, List.length_append, List.length_cons, List.length_nil]; omega)) only [h10, hg, qb, go_sem, ↓reduceIte])) | ((first | simp (disch := omega) only [hg] | (refine cs_ ?_ ?_ <;> intro hc) | refine cj_ ?_ | simp (disch := omega) only [encs_getN, qb] | refine qa (qhl hp) fun _ => ?_) <;> (try refine ev_ ?_)) | with_reducible exact ti_)
      all_goals try (exfalso; omega)
      all_goals rfl
  ·have hie : i = l.length := by omega
   subst hie
   rw [List.take_length] at ha
   have : fewI l = true := by rw [fewI, decide_eq_true h12, ha]; rfl
   rw [this]
   repeat' (first | refine vs_ ?_ | ((first | refine vr_ ?_ | (refine cs_ ?_ ?_ <;> intro hc) | refine cj_ ?_ | simp (disch := omega) only [encs_getN, qb]) <;> (try refine ev_ ?_)) | with_reducible exact ti_)
   all_goals try (exfalso; omega)
theorem qfs {l : List Ins} (h : fewI l = true) : qk Try.prog 4 [.sl 4 (qbh l)] (.int .i64 1) := qcq (qbgz l) (by rw [h]; rfl)
theorem qx3 {l : List Ins} (h : fewI l = false) : qk Try.prog 4 [.sl 4 (qbh l)] (.int .i64 0) := qcq (qbgz l) (by rw [h]; rfl)
theorem qor {l : List Pd} (hl : l.length ≤ maxLen) (h : fewP l = true) : l.length ≤ 30 ∧ ∀ p ∈ l, szY p.ty ≤ 20000 ∧ dpY p.ty ≤ 300 := by
 rw [fewP, Bool.and_eq_true, decide_eq_true_eq] at h
 refine ⟨h.1, fun p hp => ?_⟩
 have := q59 (l := l.map Pd.ty) (by rw [List.length_map]; exact hl) h.2
 have hm : p.ty ∈ l.map Pd.ty := List.mem_map_of_mem hp
 have h1 := qkq hm
 have h2 := qmv hm
 omega
theorem qwm {l : List Ins} (hw : ∀ x ∈ l, x.ps.length ≤ maxLen) (h : fewI l = true) : ∀ x ∈ l, smlI x ∧ x.ps.length ≤ 30 ∧ x.n ≤ 200 := fun x hx => by
 rw [fewI, Bool.and_eq_true] at h
 have h1 := List.all_eq_true.1 h.2 x hx
 simp only [Bool.and_eq_true, decide_eq_true_eq] at h1
 obtain ⟨a, b⟩ := qor (hw x hx) h1.1
 exact ⟨⟨by omega, b⟩, a, h1.2⟩
def iX : Ins := ⟨[68], [84], 1, [⟨[67], Y0⟩]⟩
def iC : Ins := ⟨[67], [84], 0, []⟩
def wInt : Ty := ⟨[73, 110, 116], 0, []⟩
def wTI : Ty := ⟨[84], 0, [wInt]⟩
theorem qbht : qk Try.prog 11 [.str [84, 32, 73, 110, 116]] (.tup [encY wTI, .int .i64 0]) := by
 have h := qp0 (q3f (s := [84, 32, 73, 110, 116]) (t := wTI) (r := ⟨[], 0, false⟩) rfl (by decide) (by decide) (by decide) (by decide) (by decide))
 have e : qyw [84, 32, 73, 110, 116] = (wTI, 0) := rfl
 rw [e] at h
 exact h
theorem qbh5 : qk Try.prog 8 [.sl 4 (qbh [iX]), encP ⟨[68], wTI⟩] (.tup [.int .i64 0, .sl 4 [encP ⟨[67], wInt⟩], .bool true]) := by
 have h := qkw (l := [iX]) (p := ⟨[68], wTI⟩) (by intro x hx; simp at hx; subst hx; exact ⟨by decide, by decide⟩) (by decide) (by decide)
 have e : byI [iX] ⟨[68], wTI⟩ = (0, [⟨[67], wInt⟩], true) := by rfl
 rwa [e] at h
theorem qbib : qk Try.prog 12 [.sl 4 (qbh [iX, iC, iX])] (.tup [.int .i64 0, .int .i64 2, .bool true]) := qjz [iX, iC, iX]
theorem qbh7 : qk Try.prog 9 [.sl 4 (qbh [iX]), .str [68], .str [84]] (.tup [.int .i64 0, .bool true]) := qfz [iX] [68] [84]
theorem qbh3 : qk Try.prog 13 [encI iX] (.int .i64 0) := qes iX
theorem qbh0 : qk Try.prog 13 [encI I0] (.int .i64 10) := qes I0
def aTxt : List UInt8 := [105, 110, 115, 116, 97, 110, 99, 101, 32, 67, 32, 97, 32, 61, 62, 32, 68, 32, 40, 84, 32, 97, 41]
theorem qbhq : qk Try.prog 14 [encI iX] (.str aTxt) := by
 have h := qrf (x := iX) ⟨by intro p hp; simp [iX] at hp; subst hp; exact ⟨by decide, by decide, by decide⟩, by decide, by decide⟩
 have e : txtI iX = aTxt := by rfl
 rwa [e] at h
set_option maxHeartbeats 1000000 in
theorem qh6 : qk Try.prog 7 [] (.bool true) := by
 refine qf c0c (by simp) rfl rfl fun hw => ?_
 repeat' (first | refine vs_ ?_ | ((first | refine vr_ ?_ | refine qa qbht fun _ => ?_ | refine qa qbh5 fun _ => ?_ | refine qa qbib fun _ => ?_ | refine qa qbh7 fun _ => ?_ | refine qa qbh3 fun _ => ?_ | refine qa qbh0 fun _ => ?_ | refine qa qbhq fun _ => ?_ | (refine cs_ ?_ ?_ <;> intro hc) | refine cj_ ?_ | simp (disch := omega) only [encs_getN, qb]) <;> (try refine ev_ ?_)) | with_reducible exact ti_)
 ·rfl
 ·exact absurd rfl (by assumption)
set_option maxRecDepth 4000

def apW (v : Int) : Ty := .mk [] v []
theorem q2b (l : List Ins) (c : List UInt8) (v : Int) : byI l ⟨c, apW v⟩ = (0, [], false) := qur rfl
theorem qvv {l : List Ins} {p : Pd} (h : (byI l p).2.2 = true) : (fndI p.cls p.ty.con l 0).2 = true ∧ (byI l p).1 = (fndI p.cls p.ty.con l 0).1 := by
 rw [byI] at h ⊢
 split at h
 ·rename_i hx; rw [if_pos hx]; exact ⟨hx.1, rfl⟩
 ·cases h
set_option maxHeartbeats 2000000 in
theorem qi0 (l : List Ins) (p : Pd) (v : Int) : qk Try.prog 3 [.sl 4 (qbh l), encP p, .int .i64 v] (.bool true) := by
 refine qf c0a (by simp) (by simp only [go_sem]) rfl fun hw => ?_
 have h10 : decide ((1 : Int) = 0) = false := rfl
 have hi := (qe7 hw.1).2
 by_cases hf : fewI l = true
 case neg =>
  have hf : fewI l = false := by simpa using hf
  repeat' (first | refine vs_ ?_ | ((first | refine vr_ ?_ | refine qa (qx3 hf) fun _ => ?_ | refine qa qh6 fun _ => ?_ | (refine cs_ ?_ ?_ <;> intro hc) | refine cj_ ?_ | fail) <;> (try refine ev_ ?_)) | with_reducible exact ti_)
 by_cases hp : fewP [p] = true
 case neg =>
  have hp : fewP [p] = false := by simpa using hp
  have hP : qk Try.prog 5 [.sl 4 [encP p]] (.int .i64 0) := qph hp
  repeat' (first | refine vs_ ?_ | ((first | refine vr_ ?_ | fail) <;> (try simp only [h10, go_sem, ↓reduceIte])) | ((first | (refine cs_ ?_ ?_ <;> intro hc) | refine cj_ ?_ | fail | refine qa (qfs hf) fun _ => ?_ | refine qa hP fun _ => ?_ | refine qa qh6 fun _ => ?_) <;> (try refine ev_ ?_)) | with_reducible exact ti_)
 have hP : qk Try.prog 5 [.sl 4 [encP p]] (.int .i64 1) := qhl hp
 have hs := qwm (fun x hx => (qfl (qmp (hi x hx)).2.2.2).1) hf
 obtain ⟨_, hsz⟩ := qor (l := [p]) (show 1 ≤ maxLen by decide) hp
 obtain ⟨h1, h2⟩ := hsz p (by simp)
 by_cases hy : qel [p.ty] = true
 case neg =>
  have hy : qel [p.ty] = false := by simpa using hy
  have hY : qk Try.prog 6 [.sl 3 [encY p.ty]] (.int .i64 0) := by
   have := qzh hy
   rwa [← qf0] at this
  repeat' (first | refine vs_ ?_ | ((first | refine vr_ ?_ | fail) <;> (try simp only [h10, go_sem, ↓reduceIte])) | ((first | (refine cs_ ?_ ?_ <;> intro hc) | refine cj_ ?_ | fail | refine qa (qfs hf) fun _ => ?_ | refine qa hP fun _ => ?_ | refine qa hY fun _ => ?_ | refine qa qh6 fun _ => ?_) <;> (try refine ev_ ?_)) | with_reducible exact ti_)
 have hY : qk Try.prog 6 [.sl 3 [encY p.ty]] (.int .i64 1) := by
  have := qsz hy
  rwa [← qf0] at this
 have hB := qkw (l := l) (p := p) (fun x hx => (hs x hx).1) h1 h2
 have hV := qkw (l := l) (p := ⟨p.cls, apW v⟩) (fun x hx => (hs x hx).1) (show szY (apW v) ≤ 20000 by simp [apW, szY, szYs]) (show dpY (apW v) ≤ 300 by simp [apW, dpY, dpYs])
 rw [q2b] at hV
 have hTV : byA (0, [], false) = .tup [.int .i64 0, .sl 4 [], .bool false] := rfl
 rw [hTV] at hV
 have hF := qfz l p.cls p.ty.con
 have hbf := qvv (l := l) (p := p)
 obtain ⟨⟨k, m, b⟩, hq⟩ : ∃ q, byI l p = q := ⟨_, rfl⟩
 rw [hq] at hB hbf
 have hT : byA (k, m, b) = .tup [.int .i64 k, .sl 4 (q7 m), .bool b] := rfl
 rw [hT] at hB
 obtain ⟨⟨i, c⟩, hfq⟩ : ∃ q, fndI p.cls p.ty.con l 0 = q := ⟨_, rfl⟩
 rw [hfq] at hF hbf
 dsimp only at hF hbf
 cases b
 ·repeat' (first | refine vs_ ?_ | ((first | refine vr_ ?_ | fail) <;> (try simp only [h10, go_sem, ↓reduceIte])) | ((first | (refine cs_ ?_ ?_ <;> intro hc) | refine cj_ ?_ | fail | refine qa (qfs hf) fun _ => ?_ | refine qa hP fun _ => ?_ | refine qa hY fun _ => ?_ | refine qa hB fun _ => ?_ | refine qa hF fun _ => ?_ | refine qa hV fun _ => ?_ | refine qa qh6 fun _ => ?_) <;> (try refine ev_ ?_)) | with_reducible exact ti_)
 ·obtain ⟨rfl, rfl⟩ := hbf rfl
  repeat' (first | refine vs_ ?_ | ((first | refine vr_ ?_ | fail) <;> (try simp only [h10, go_sem, ↓reduceIte])) | ((first | (refine cs_ ?_ ?_ <;> intro hc) | refine cj_ ?_ | fail | refine qa (qfs hf) fun _ => ?_ | refine qa hP fun _ => ?_ | refine qa hY fun _ => ?_ | refine qa hB fun _ => ?_ | refine qa hF fun _ => ?_ | refine qa hV fun _ => ?_ | refine qa qh6 fun _ => ?_) <;> (try refine ev_ ?_)) | with_reducible exact ti_)
end Go.Proofs.Ytbbjelfnocmaoaa
