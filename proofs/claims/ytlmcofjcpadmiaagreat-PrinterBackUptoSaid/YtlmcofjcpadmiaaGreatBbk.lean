/- A text of this proof. -/
import Derived.Test.YtlmcofjcpadmiaaGreatBbi
import Derived.Test.YtlmcofjcpadmiaaGreatBbj

/- trees that are written: the program's walk: expressions, bindings -/
set_option maxRecDepth 4000
namespace Go.Proofs.YtlmcofjcpadmiaaGreat
open Go Go.RowKit Go.V
set_option linter.unusedVariables false
set_option linter.unusedSimpArgs false

def PE (n : N) : Prop := ql Tryz.prog 46 [.iface 39 (enc n)] (.str (ptE n))
def PD (n : N) : Prop := ql Tryz.prog 46 [.iface 40 (enc n)] (.str (ptD n))
theorem qbab {n : N} (h : ql Tryz.prog 86 [enc n] (.str (ptE n))) : PE n := by
 refine qg c0m (by simp) (by simp only [AV.bds, qkk]; rfl) rfl fun hw => ?_
 repeat' (first | refine vs_ ?_ | ((first | refine vr_ ?_ | refine qa h fun _ => ?_ | (refine cs_ ?_ ?_ <;> intro hc) | refine cj_ ?_ | fail) <;> (try refine ev_ ?_)) | with_reducible exact ti_)
theorem qhs {n : N} (h : ql Tryz.prog 87 [enc n] (.str (ptD n))) : PD n := by
 refine qg c0m (by simp) (by simp only [AV.bds, qkk]; rfl) rfl fun hw => ?_
 repeat' (first | refine vs_ ?_ | ((first | refine vr_ ?_ | refine qa h fun _ => ?_ | (refine cs_ ?_ ?_ <;> intro hc) | refine cj_ ?_ | fail) <;> (try refine ev_ ?_)) | with_reducible exact ti_)
def ncE (n : N) : Ent := .blk [.int .i64 n.kind, .int .i64 n.pos, .int .i64 n.num, .str n.text, .sl 5 (encs n.kids)]
theorem qbcl (k : Nat) (n : N) : (ncE n).bd k = true := by simp only [ncE, Ent.bd, AV.bds, AV.bd, qcf]; rfl
theorem qv2 : ∀ {H : List Ent} {i : Nat} {e : Ent}, ent H i = e → i < H.length → H.set i e = H
 | [], _, _, _, h => by simp at h
 | x :: H, 0, e, he, _ => by rw [show e = x from he.symm]; rfl
 | x :: H, i + 1, e, he, h => by rw [List.set_cons_succ, qv2 (H := H) he (by simpa using h)]
theorem qb07 {n : N} {i : Nat} (hi : i < n.kids.length) (h : PE (n.kids.getD i N0)) : VM Tryz.prog 135 (ncE n) (ncE n) [.int .i64 i, .ptr 0 0] (.str (ptE (n.kids.getD i N0))) := by
 refine qk c0n 1 (by simp) (by simp) ?_
 unfold PE at h
 have g0 : (encs n.kids).getD i .junk = enc (n.kids.getD i N0) := qb hi
 unfold ncE
 repeat' (first | refine vs_ ?_ | ((first | refine vr_ ?_ | fail) <;> (try simp only [g0, Int.toNat_natCast, go_sem, ↓reduceIte])) | ((first | (refine cs_ ?_ ?_ <;> intro hc) | refine cj_ ?_ | simp (disch := omega) only [qb, qi] | refine qa h fun _ => ?_) <;> (try refine ev_ ?_)) | with_reducible exact ti_)
section
variable {H : List Ent} {Q : List Ent → VO → Prop} {rs : List AV} {Kk : Md → AV → List Ent → Prop} {n : N} {z : Int}
theorem ql0 {x : N} (j i : Nat) (hi : i < n.kids.length) (h : PE x) (hq : Q H (.val (.str (ptE x)))) (hx : n.kids.getD i N0 = x := by rfl) (hz : z = (i : Int) := by first | rfl | omega) (he : ent H j = ncE n := by rfl) (hj : j < H.length := by simp) : VApp Tryz.prog H (.fn 135 [] [.ptr j 0]) [.int .i64 z] Q := by
 subst hz
 subst hx
 refine qb36 j (qb07 hi h) ?_ (qbcl 0 n) (qbcl 0 n) hj he rfl
 rw [qv2 he hj]
 exact hq
theorem qw4 {x : N} (j i : Nat) (hi : i < n.kids.length) (h : PE x) (hq : Kk .here (.str (ptE x)) H) (hx : n.kids.getD i N0 = x := by rfl) (hz : z = (i : Int) := by first | rfl | omega) (he : ent H j = ncE n := by rfl) (hj : j < H.length := by simp) : DApp Tryz.prog H (.fn 135 [] [.ptr j 0]) [.int .i64 z] rs Kk :=
 .inl ⟨_, ql0 j i hi h ⟨rfl, rfl⟩ hx hz he hj, hq⟩
end
theorem qih (s : List UInt8) (hl : s.length + 4 ≤ Big) : ql Tryz.prog 137 [.str s] (.str (brW s)) := by
 refine qg c0o (by simp) (by simp only [go_sem]) rfl fun hw => ?_
 have hM := qix
 by_cases h : s = []
 ·subst h
  repeat' (first | refine vs_ ?_ | ((first | refine vr_ ?_ | (refine cs_ ?_ ?_ <;> intro hc) | refine cj_ ?_ | simp (disch := omega) only [qb, qi]) <;> (try refine ev_ ?_)) | with_reducible exact ti_)
  all_goals rfl
 ·have e : brW s = 123 :: 32 :: (s ++ [32, 125]) := by rw [brW, if_neg h]; rfl
  rw [e]
  repeat' (first | refine vs_ ?_ | ((first | refine vr_ ?_ | fail) <;> (try simp only [h, decide_false, List.length_append, go_sem, ↓reduceIte])) | ((first | (refine cs_ ?_ ?_ <;> intro hc) | refine cj_ ?_ | simp (disch := omega) only [qb, qi]) <;> (try refine ev_ ?_)) | with_reducible exact ti_)
theorem qq8 (s : List UInt8) : s.length ≤ (brW s).length ∧ 2 ≤ (brW s).length := by
 unfold brW
 split
 ·rename_i h; subst h; simp
 ·simp only [List.length_append, List.length_cons, List.length_nil]; omega
theorem qfe {l : List N} {g : N → List UInt8} (h : ∀ x ∈ l, PD x ∧ ptD x = g x) (hl : (Lib.join (l.map g) smW).length + 4 ≤ Big) (hn : l.length ≤ 1000000) : ql Tryz.prog 136 [.sl 5 (encs l)] (.str (brW (Lib.join (l.map g) smW))) := by
 refine qg c0p (by simp) (by simp only [go_sem]) rfl fun hw => ?_
 have h1 : ∀ x ∈ l, ql Tryz.prog 179 [enc x] (.str (g x)) := fun x hx => by
  obtain ⟨h1, h2⟩ := h x hx
  rw [← h2]
  unfold PD at h1
  refine qg c0q (by simp) (by simp only [go_sem]) rfl fun hw => ?_
  repeat' (first | refine vs_ ?_ | ((first | refine vr_ ?_ | refine qa h1 fun _ => ?_ | (refine cs_ ?_ ?_ <;> intro hc) | refine cj_ ?_ | fail) <;> (try refine ev_ ?_)) | with_reducible exact ti_)
 have hj := qb5 (m := [59, 32]) h1 (by show (Lib.join (l.map g) smW).length ≤ Big; omega) hn
 have hb := qih (Lib.join (l.map g) smW) hl
 have hj : ql Tryz.prog 44 [.sl 5 (encs l), .str [59, 32], .fn 179 [] []] (.str (Lib.join (l.map g) smW)) := hj
 repeat' (first | refine vs_ ?_ | ((first | refine vr_ ?_ | refine qa hj fun _ => ?_ | refine qa hb fun _ => ?_ | (refine cs_ ?_ ?_ <;> intro hc) | refine cj_ ?_ | fail) <;> (try refine ev_ ?_)) | with_reducible exact ti_)
theorem qrc {n : N} (h : n.kind = 31 ∨ n.kind = 32) : ptD n = ptB n := by rw [ptD, if_pos h]
theorem qrh {n : N} (h : biW n = true) (ih : PE (ekN n 0)) (hl : (ptB n).length + 4 ≤ Big) : PD n := by
 obtain ⟨h1, h2, h3, h4, h5⟩ := qf2 h
 have hkl : n.kids.length = 1 := by rw [h4]; rfl
 refine qhs (qg c0j (by simp) (by simp only [go_sem]) rfl fun hw => ?_)
 have hM := qix
 have he : ptB n = n.text ++ ([32, 61, 32] ++ ptE (ekN n 0)) := by rw [qk0, if_pos h1, if_pos (by omega)]; rfl
 rw [qrc (.inl h1)]
 rw [he] at hl ⊢
 simp only [List.length_append, List.length_cons, List.length_nil] at hl
 have g0 : (encs n.kids).getD 0 .junk = enc (ekN n 0) := qb (by omega)
 unfold PE at ih
 repeat' (first | refine vs_ ?_ | ((first | refine vr_ ?_ | fail) <;> (try simp only [h1, g0, hkl, List.length_append, go_sem, ↓reduceIte])) | ((first | (refine cs_ ?_ ?_ <;> intro hc) | refine cj_ ?_ | simp (disch := omega) only [qb, qi] | refine qa ih fun _ => ?_ | refine qe ih ?_) <;> (try refine ev_ ?_)) | with_reducible exact ti_)
 all_goals try (exfalso; revert hc; decide)
 all_goals simp
theorem qvr {n : N} (h : sgW n = true) (hs : sz n ≤ 1000000) (hl : (ptB n).length + 4 ≤ Big) : PD n := by
 obtain ⟨h1, h2, h3, h4, h5⟩ := qfu h
 have hkl : n.kids.length = 1 := by rw [h4]; rfl
 refine qhs (qg c0j (by simp) (by simp only [go_sem]) rfl fun hw => ?_)
 have hM := qix
 have he : ptB n = n.text ++ ([32, 58, 58, 32] ++ quT (ekN n 0)) := by rw [qk0, if_neg (by omega)]; rfl
 rw [qrc (.inr h1)]
 rw [he] at hl ⊢
 simp only [List.length_append, List.length_cons, List.length_nil] at hl
 have g0 : (encs n.kids).getD 0 .junk = enc (ekN n 0) := qb (by omega)
 have hk := qhl (show ekN n 0 ∈ n.kids from qf (by omega))
 have hq := qk1 h5 (by omega) (by omega)
 repeat' (first | refine vs_ ?_ | ((first | refine vr_ ?_ | fail) <;> (try simp only [h1, g0, hkl, List.length_append, go_sem, ↓reduceIte])) | ((first | (refine cs_ ?_ ?_ <;> intro hc) | refine cj_ ?_ | simp (disch := omega) only [qb, qi] | refine qa hq fun _ => ?_ | refine qe hq ?_) <;> (try refine ev_ ?_)) | with_reducible exact ti_)
 all_goals try (exfalso; revert hc; decide)
 all_goals simp
theorem qve {n : N} (h : alW n = true) (hs : sz n ≤ 1000000) (ih : PE (ekN n 1)) (hl : (ptL n).length + 4 ≤ Big) : ql Tryz.prog 138 [enc n] (.str (ptL n)) := by
 obtain ⟨h1, h2, h3, h4, h5, h6⟩ := qgh h
 have hkl : n.kids.length = 2 := by rw [h4]; rfl
 refine qg c0r (by simp) (by simp only [go_sem]) rfl fun hw => ?_
 have hM := qix
 have he : ptL n = ptP (ekN n 0) ++ ([32, 45, 62, 32] ++ ptE (ekN n 1)) := by rw [qto, if_pos (by omega)]; rfl
 rw [he] at hl ⊢
 simp only [List.length_append, List.length_cons, List.length_nil] at hl
 have g0 : (encs n.kids).getD 0 .junk = enc (ekN n 0) := qb (by omega)
 have g1 : (encs n.kids).getD 1 .junk = enc (ekN n 1) := qb (by omega)
 have hk := qhl (show ekN n 0 ∈ n.kids from qf (by omega))
 have hp := qkm _ h5 (by omega) (by omega)
 unfold PE at ih
 unfold PP at hp
 repeat' (first | refine vs_ ?_ | ((first | refine vr_ ?_ | fail) <;> (try simp only [g0, g1, hkl, List.length_append, go_sem, ↓reduceIte])) | ((first | (refine cs_ ?_ ?_ <;> intro hc) | refine cj_ ?_ | simp (disch := omega) only [qb, qi] | refine qa ih fun _ => ?_ | refine qa hp fun _ => ?_ | refine qe ih ?_ | refine qe hp ?_) <;> (try refine ev_ ?_)) | with_reducible exact ti_)
 all_goals simp
end Go.Proofs.YtlmcofjcpadmiaaGreat
