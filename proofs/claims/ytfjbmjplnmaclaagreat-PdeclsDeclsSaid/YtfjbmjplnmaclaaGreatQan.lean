/- A text of this proof. -/
import Derived.Test.YtfjbmjplnmaclaaGreatQai
import Derived.Test.YtfjbmjplnmaclaaGreatQam

/- names -/
set_option maxRecDepth 4000
namespace Go.Proofs.YtfjbmjplnmaclaaGreat
open Go Go.RowKit Go.V
set_option linter.unusedVariables false
set_option linter.unusedSimpArgs false

def qmb (c : Int) : Bool := decide (97 ≤ c) && decide (c ≤ 122) || decide (c = 95)
def qke (c : Int) : Bool := decide (65 ≤ c) && decide (c ≤ 90)
def qcm (c : Int) : Bool := decide (48 ≤ c) && decide (c ≤ 57)

theorem qro (c : Int) : qz Tryz.prog 125 [.int .u8 c] (.bool (qmb c)) := by
 refine qj c0dy (by simp) (by simp only [go_sem]) rfl fun hw => ?_
 repeat' (first | refine vs_ ?_ | ((first | refine vr_ ?_ | (refine cs_ ?_ ?_ <;> intro hc) | refine cj_ ?_ | fail) <;> (try refine ev_ ?_)) | with_reducible exact ti_)
 all_goals simp [qmb, *]
theorem qrd (c : Int) : qz Tryz.prog 75 [.int .u8 c] (.bool (qmb c)) := by
 refine qj c0dz (by simp) (by simp only [go_sem]) rfl fun hw => ?_
 repeat' (first | refine vs_ ?_ | ((first | refine vr_ ?_ | (refine cs_ ?_ ?_ <;> intro hc) | refine cj_ ?_ | fail) <;> (try refine ev_ ?_)) | with_reducible exact ti_)
 all_goals simp [qmb, *]
theorem qr9 (c : Int) : qz Tryz.prog 97 [.int .u8 c] (.bool (qke c)) := by
 refine qj c0ea (by simp) (by simp only [go_sem]) rfl fun hw => ?_
 repeat' (first | refine vs_ ?_ | ((first | refine vr_ ?_ | (refine cs_ ?_ ?_ <;> intro hc) | refine cj_ ?_ | fail) <;> (try refine ev_ ?_)) | with_reducible exact ti_)
 all_goals simp [qke, *]
theorem qjj (c : Int) : qz Tryz.prog 76 [.int .u8 c] (.bool (qke c)) := by
 refine qj c0eb (by simp) (by simp only [go_sem]) rfl fun hw => ?_
 repeat' (first | refine vs_ ?_ | ((first | refine vr_ ?_ | (refine cs_ ?_ ?_ <;> intro hc) | refine cj_ ?_ | fail) <;> (try refine ev_ ?_)) | with_reducible exact ti_)
 all_goals simp [qke, *]
theorem qmt (c : Int) : qz Tryz.prog 73 [.int .u8 c] (.bool (qcm c)) := by
 refine qj c0ec (by simp) (by simp only [go_sem]) rfl fun hw => ?_
 repeat' (first | refine vs_ ?_ | ((first | refine vr_ ?_ | (refine cs_ ?_ ?_ <;> intro hc) | refine cj_ ?_ | fail) <;> (try refine ev_ ?_)) | with_reducible exact ti_)
 all_goals simp [qcm, *]
def onW (c : Int) : Bool := qmb c || qke c || qcm c || decide (c = 39)
theorem q2t (c : Int) : qz Tryz.prog 77 [.int .u8 c] (.bool (onW c)) := by
 refine qj c0ed (by simp) (by simp only [go_sem]) rfl fun hw => ?_
 repeat' (first | refine vs_ ?_ | ((first | refine vr_ ?_ | refine qa (qrd _) fun _ => ?_ | refine qa (qjj _) fun _ => ?_ | refine qa (qmt _) fun _ => ?_ | (refine cs_ ?_ ?_ <;> intro hc) | refine cj_ ?_ | fail) <;> (try refine ev_ ?_)) | with_reducible exact ti_)
 all_goals simp [onW, *]

def onsW (l : List UInt8) : Bool := l.all fun c => onW c.toNat
theorem qei {l : List UInt8} {i : Nat} (h : i < l.length) : l.drop i = l.getD i 0 :: l.drop (i + 1) := by
 rw [List.drop_eq_getElem_cons h, List.getD_eq_getElem?_getD, List.getElem?_eq_getElem h]; rfl
theorem qyj {l : List UInt8} {i : Nat} (h : i < l.length) : onsW (l.drop i) = (onW (l.getD i 0).toNat && onsW (l.drop (i + 1))) := by
 rw [qei h]; rfl
theorem qtb (l : List UInt8) : qz Tryz.prog 98 [.str l] (.bool (onsW l)) := by
 refine qj c0ee (by simp) (by simp only [go_sem]) rfl fun hw => ?_
 have hl : l.length ≤ maxLen := hw.1
 repeat' (first | refine vs_ ?_ | ((first | refine vr_ ?_ | (refine cs_ ?_ ?_ <;> intro hc) | refine cj_ ?_ | simp (disch := omega) only [qh, qs]) <;> (try refine ev_ ?_)) | with_reducible exact ti_)
 refine qbm (S := Nat) (fun i => i ≤ l.length ∧ onsW (l.drop i) = onsW l) (fun i => (⟨[(0, .str l), (6, .int .i64 l.length), (7, .int .i64 i)], []⟩, [])) (fun i => l.length - i) ?_ fun i hi => ?_
 ·refine q8 0 [] ⟨Nat.zero_le _, rfl⟩ rfl (by simp) ?_ ?_ ?_ <;> (try refine ev_ ?_) <;> (try with_reducible exact ti_) <;> (try simp (disch := omega) only [qs, and_true, true_and])
 ·obtain ⟨hi, ha⟩ := hi
  repeat' (first | refine vs_ ?_ | ((first | refine vr_ ?_ | refine qa (qro _) fun _ => ?_ | refine qa (qr9 _) fun _ => ?_ | (refine cs_ ?_ ?_ <;> intro hc) | refine cj_ ?_ | simp (disch := omega) only [qh, qs]) <;> (try refine ev_ ?_)) | with_reducible exact ti_)
  all_goals first
   | (refine q8 (i + 1) [] ⟨⟨by omega, ?_⟩, by omega⟩ rfl (by simp) ?_ ?_ ?_ <;> (try refine ev_ ?_) <;> (try with_reducible exact ti_) <;> (try simp (disch := omega) only [qs, and_true, true_and])
      rw [← ha, qyj (l := l) (i := i) (by omega)]
      simp_all [onW, qcm]
      try omega)
   | (rw [← ha, show i = l.length by omega, List.drop_length]; rfl)
   | (rw [← ha, qyj (l := l) (i := i) (by omega)]
      simp_all [onW, qcm]
      try omega)

def wordsW : List (List UInt8) := [[100, 97, 116, 97], [99, 108, 97, 115, 115], [105, 110, 115, 116, 97, 110, 99, 101], [119, 104, 101, 114, 101], [108, 101, 116], [105, 110], [99, 97, 115, 101], [111, 102], [105, 102], [116, 104, 101, 110], [101, 108, 115, 101]]
def resW (l : List UInt8) : Bool := wordsW.contains l
theorem ql9 (l : List UInt8) : qz Tryz.prog 78 [.str l] (.bool (resW l)) := by
 refine qj c0ef (by simp) (by simp only [go_sem]) rfl fun hw => ?_
 repeat' (first | refine vs_ ?_ | ((first | refine vr_ ?_ | (refine cs_ ?_ ?_ <;> intro hc) | refine cj_ ?_ | fail) <;> (try refine ev_ ?_)) | with_reducible exact ti_)
 all_goals simp_all [resW, wordsW]
theorem qbbh : (wordsW.map AV.str).length = 11 := rfl
theorem q88 {i : Nat} (h : i < 11) : (wordsW.map AV.str).getD i .junk = .str (wordsW.getD i []) := by
 have h' : i < wordsW.length := h
 rw [List.getD_eq_getElem?_getD, List.getElem?_map, List.getD_eq_getElem?_getD, List.getElem?_eq_getElem h']; rfl
theorem qug {i : Nat} (h : i < 11) : wordsW.drop i = wordsW.getD i [] :: wordsW.drop (i + 1) := by
 have h' : i < wordsW.length := h
 rw [List.drop_eq_getElem_cons h', List.getD_eq_getElem?_getD, List.getElem?_eq_getElem h']; rfl
theorem ql7 (l : List UInt8) : qz Tryz.prog 126 [.str l] (.bool (resW l)) := by
 refine qj c0eg (by simp) (by simp only [go_sem]) rfl fun hw => ?_
 repeat' (first | refine vs_ ?_ | ((first | refine vr_ ?_ | (refine cs_ ?_ ?_ <;> intro hc) | refine cj_ ?_ | simp (disch := omega) only [qh, qs]) <;> (try refine ev_ ?_)) | with_reducible exact ti_)
 refine qbm (S := Nat) (fun i => i ≤ 11 ∧ (wordsW.drop i).contains l = resW l) (fun i => (⟨[(0, .str l), (3, .bool false), (6, .agg (wordsW.map AV.str)), (7, .int .i64 i)], []⟩, [])) (fun i => 11 - i) ?_ fun i hi => ?_
 ·refine q8 0 [] ⟨Nat.zero_le _, rfl⟩ rfl (by simp) ?_ ?_ ?_ <;> (try refine ev_ ?_) <;> (try with_reducible exact ti_) <;> (try simp (disch := omega) only [qs, and_true, true_and])
  exact ⟨rfl, rfl⟩
 ·obtain ⟨hi, ha⟩ := hi
  repeat' (first | refine vs_ ?_ | ((first | refine vr_ ?_ | (refine cs_ ?_ ?_ <;> intro hc) | refine cj_ ?_ | simp (disch := omega) only [qh, qs]) <;> (try refine ev_ ?_)) | with_reducible exact ti_)
  ·simp (disch := omega) only [qbbh, q88, Nat.mul_one]
   refine ⟨by omega, ?_⟩
   repeat' (first | refine vs_ ?_ | ((first | refine vr_ ?_ | (refine cs_ ?_ ?_ <;> intro hc) | refine cj_ ?_ | simp (disch := omega) only [qh, qs]) <;> (try refine ev_ ?_)) | with_reducible exact ti_)
   ·refine q8 (i + 1) [] ⟨⟨by omega, ?_⟩, by omega⟩ rfl (by simp) ?_ ?_ ?_ <;> (try refine ev_ ?_) <;> (try with_reducible exact ti_) <;> (try simp (disch := omega) only [qs, and_true, true_and])
    ·rw [← ha, qug (i := i) (by omega), List.contains_cons]
     rw [show (l == wordsW.getD i []) = false by simpa using fun h => hc h.symm]; simp
    ·have : i < maxLen := by unfold maxLen; omega
     rw [qs this]
     exact ⟨⟨rfl, rfl⟩, rfl⟩
   ·rw [← ha, qug (i := i) (by omega), List.contains_cons, show (l == wordsW.getD i []) = true by simpa using hc.symm]; rfl
  ·rw [← ha, show i = 11 by omega]; rfl
def conW (l : List UInt8) : Bool := decide (l ≠ []) && qke (l.getD 0 0).toNat && onsW l
theorem qg8 (l : List UInt8) : qz Tryz.prog 53 [.str l] (.bool (conW l)) := by
 refine qj c0eh (by simp) (by simp only [go_sem]) rfl fun hw => ?_
 have hl : l.length ≤ maxLen := hw.1
 repeat' (first | refine vs_ ?_ | ((first | refine vr_ ?_ | refine qa (qtb _) fun _ => ?_ | refine qa (qr9 _) fun _ => ?_ | (refine cs_ ?_ ?_ <;> intro hc) | refine cj_ ?_ | simp (disch := omega) only [qh, qs]) <;> (try refine ev_ ?_)) | with_reducible exact ti_)
 all_goals simp_all [conW]
def varW (l : List UInt8) : Bool := decide (l ≠ []) && decide (l ≠ [95]) && qmb (l.getD 0 0).toNat && onsW l && !resW l
theorem qkt (l : List UInt8) : qz Tryz.prog 94 [.str l] (.bool (varW l)) := by
 refine qj c0ei (by simp) (by simp only [go_sem]) rfl fun hw => ?_
 have hl : l.length ≤ maxLen := hw.1
 repeat' (first | refine vs_ ?_ | ((first | refine vr_ ?_ | refine qa (qtb _) fun _ => ?_ | refine qa (qro _) fun _ => ?_ | refine qa (ql7 _) fun _ => ?_ | (refine cs_ ?_ ?_ <;> intro hc) | refine cj_ ?_ | simp (disch := omega) only [qh, qs]) <;> (try refine ev_ ?_)) | with_reducible exact ti_)
 all_goals simp_all [varW]
end Go.Proofs.YtfjbmjplnmaclaaGreat
