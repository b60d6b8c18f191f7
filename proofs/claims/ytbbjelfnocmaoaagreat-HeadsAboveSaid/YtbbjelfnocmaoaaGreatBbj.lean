/- Texts of this proof, joined. -/
import Derived.Test.YtbbjelfnocmaoaaGreatBav
import Derived.Test.YtbbjelfnocmaoaaGreatBbi
import Derived.Test.YtbbjelfnocmaoaaGreatBbh

/- predicates: their text -/
set_option maxRecDepth 4000
namespace Go.Proofs.YtbbjelfnocmaoaaGreat
open Go Go.RowKit Go.V
set_option linter.unusedVariables false
set_option linter.unusedSimpArgs false

theorem strings_Join {ls : List (List UInt8)} {sep : List UInt8} (hn : ls.length ≤ 140737488355328) (hl : (Lib.join ls sep).length ≤ 140737488355328) : qj Tryz.prog 51 [.sl 1 (ls.map AV.str), .str sep] (.str (Lib.join ls sep)) :=
 qtr (by kernel_rfl) Tryz.strings_Join_none Tryz.strings_Join hn hl
def okP (p : Pd) : Prop := szY p.ty ≤ 20000 ∧ dpY p.ty ≤ 300 ∧ p.cls.length + (qd3 p.ty).length + 5 ≤ Big
def oneP (p : Pd) : List UInt8 := p.cls ++ (32 :: parW (decide (p.ty.args ≠ [])) (qd3 p.ty))
theorem qvl {p : Pd} (h : okP p) : qj Tryz.prog 50 [encP p] (.str (oneP p)) := by
 refine qd c0ct (by simp) (by simp only [go_sem]) rfl fun hw => ?_
 obtain ⟨h1, h2, h3⟩ := h
 have ht := qfg h1 h2 (by omega)
 have m1 : 1 + (qd3 p.ty).length ≤ maxLen := qbf (by omega)
 have m2 : (qd3 p.ty).length + 1 + 1 ≤ maxLen := qbf (by omega)
 have m3 : p.cls.length + 1 ≤ maxLen := qbf (by omega)
 have m4 : p.cls.length + 1 + (qd3 p.ty).length ≤ maxLen := qbf (by omega)
 have m5 : p.cls.length + 1 + ((qd3 p.ty).length + 1 + 1) ≤ maxLen := qbf (by omega)
 repeat' (first | refine vs_ ?_ | ((first | refine vr_ ?_ | fail) <;> (try simp only [qp3, go_sem, ↓reduceIte])) | ((first | (refine cs_ ?_ ?_ <;> intro hc) | refine cj_ ?_ | simp (disch := omega) only [encs_getN, qb] | refine qa ht fun _ => ?_) <;> (try refine ev_ ?_)) | with_reducible exact ti_)
 ·have hne : p.ty.args ≠ [] := fun h => by rename_i hc; rw [h] at hc; simp at hc
  rw [oneP, parW, if_pos (by simp [hne])]
 ·have hne : p.ty.args = [] := List.length_eq_zero_iff.1 (by omega)
  rw [oneP, parW, if_neg (by simp [hne])]
def sepW : List UInt8 := [44, 32]
def qj4 (l : List Pd) : List UInt8 := Lib.join (l.map oneP) sepW
def qmk (l : List Pd) : List UInt8 := if l.all qjv = true then (if 1 < l.length then 40 :: (qj4 l ++ [41]) else qj4 l) else []
theorem qoe (l : List Pd) (i : Nat) (h : i < l.length) : ((l.take (i + 1)).map oneP).map AV.str = ((l.take i).map oneP).map AV.str ++ [.str (oneP (l.getD i P0))] := by
 have h1 : l.take (i + 1) = l.take i ++ [l.getD i P0] := by
  rw [List.take_add_one, List.getD_eq_getElem?_getD, List.getElem?_eq_getElem h]; rfl
 rw [h1]; simp
theorem capS {k : Nat} (h : k ≤ 1000000000) : qbv k 16 := by unfold qbv; omega
def ones (l : List Pd) : List AV := (l.map oneP).map AV.str
theorem qfc (l : List Pd) : (ones l).length = l.length := by simp [ones]
theorem qqg (k : Nat) (l : List Pd) : AV.bds k (ones l) = true := by rw [ones, qdo]; simp [AV.bd]
theorem qrd (σ : Nat → Nat) (l : List Pd) : AV.rens σ (ones l) = ones l := qr (m := 0) (fun i hi => by omega) _ (qqg 0 l)
theorem ql5 {l : List Pd} (h : l ≠ []) : ones l ≠ [] := by cases l with | nil => exact absurd rfl h | cons _ _ => simp [ones]
attribute [go_sem] qfc qqg qrd
theorem qmc : ones [] = [] := rfl
def ptSt (l : List Pd) (i : Nat) : AF × List Ent := (⟨[(0, .sl 4 (qy l)), (3, accV 0 (ones (l.take i))), (7, .sl 4 (qy l)), (8, .int .i64 l.length), (9, .int .i64 i)], []⟩, accE 1 (ones (l.take i)))
theorem qux (l : List Pd) (h30 : l.length ≤ 30) (hok : ∀ p ∈ l, okP p) (hJ : (qj4 l).length + 2 ≤ Big) : qj Tryz.prog 29 [.sl 4 (qy l)] (.str (qmk l)) := by
 refine qd c0cu (by simp) (by simp only [go_sem]) rfl fun hw => ?_
 have hl := (qdi hw.1).1
 repeat' (first | refine vs_ ?_ | ((first | refine vr_ ?_ | (refine cs_ ?_ ?_ <;> intro hc) | refine cj_ ?_ | simp (disch := omega) only [encs_getN, qb]) <;> (try refine ev_ ?_)) | with_reducible exact ti_)
 refine qo (S := Nat) (fun i => i ≤ l.length ∧ (l.take i).all qjv = true) (ptSt l) (fun i => l.length - i) ?_ fun i hi => ?_
 ·refine qh 0 [] ⟨Nat.zero_le _, rfl⟩ rfl (by simp) ?_ ?_ ?_ <;> simp only [ptSt, List.take_zero, qmc, q6, qz] <;> (try refine ev_ ?_) <;> (try with_reducible exact ti_) <;> (try simp (disch := omega) only [qb, and_true, true_and])
 ·obtain ⟨hi, ha⟩ := hi
  have htl : (l.take i).length = i := by rw [List.length_take]; omega
  have hcap : qbv (i + 1) 16 = True := eq_true (capS (by omega))
  have hcap0 : qbv 1 16 = True := eq_true (capS (by omega))
  unfold ptSt
  by_cases hlt : i < l.length
  ·have hp := hok _ (qfb hlt)
   have hg := qph hp.1 hp.2.1
   have ho := qvl hp
   have hs : ones (l.take (i + 1)) = ones (l.take i) ++ [.str (oneP (l.getD i P0))] := qoe l i hlt
   have hno : qjv (l.getD i P0) = false → qmk l = [] := fun h => by
    rw [qmk, if_neg]
    intro hall
    rw [List.all_eq_true.1 hall _ (qfb hlt)] at h
    cases h
   have hyes : qjv (l.getD i P0) = true → (l.take (i + 1)).all qjv = true := fun h => by
    rw [List.take_add_one, List.all_append, ha, Bool.true_and]
    rw [List.getD_eq_getElem?_getD, List.getElem?_eq_getElem hlt] at h
    rw [List.getElem?_eq_getElem hlt]
    simpa using h
   by_cases h0 : l.take i = []
   ·have hi0 : i = 0 := by rw [← htl, h0]; rfl
    subst hi0
    simp only [List.take_zero, qmc, q6, qz]
    repeat' (first | refine vs_ ?_ | ((first | refine vr_ ?_ | fail) <;> (try simp (disch := first | omega | (simp only [List.length_set, List.length_append, List.length_cons, List.length_nil]; done) | (simp only [List.length_set, List.length_append, List.length_cons, List.length_nil]; omega)) only [qbr, go_sem, ↓reduceIte])) | ((first | simp (disch := omega) only [hcap0] | (refine cs_ ?_ ?_ <;> intro hc) | refine cj_ ?_ | simp (disch := omega) only [encs_getN, qb] | refine qa hg fun _ => ?_ | refine qa ho fun _ => ?_) <;> (try refine ev_ ?_)) | with_reducible exact ti_)
    ·rw [hno (by assumption)]
    ·have hy := hyes (by assumption)
     have hs1 : ones (l.take 1) = [.str (oneP (l.getD 0 P0))] := hs
     refine qh 1 [1] ⟨⟨by omega, hy⟩, by omega⟩ rfl (by simp) ?_ ?_ ?_ <;> simp only [ptSt, hs1, qdj, qdk] <;> (try refine ev_ ?_) <;> (try with_reducible exact ti_) <;> (try simp (disch := omega) only [qb, and_true, true_and])
     all_goals rfl
    ·omega
   ·simp only [qb1 (ql5 h0), qb0 (ql5 h0), qfc, htl]
    repeat' (first | refine vs_ ?_ | ((first | refine vr_ ?_ | fail) <;> (try simp (disch := first | omega | (simp only [List.length_set, List.length_append, List.length_cons, List.length_nil]; done) | (simp only [List.length_set, List.length_append, List.length_cons, List.length_nil]; omega)) only [qbr, qb, qfc, htl, go_sem, ↓reduceIte])) | ((first | simp (disch := omega) only [hcap] | (refine cs_ ?_ ?_ <;> intro hc) | refine cj_ ?_ | simp (disch := omega) only [encs_getN, qb] | refine qa hg fun _ => ?_ | refine qa ho fun _ => ?_) <;> (try refine ev_ ?_)) | with_reducible exact ti_)
    ·rw [hno (by assumption)]
    ·have hy := hyes (by assumption)
     refine qh (i + 1) [2] ⟨⟨by omega, hy⟩, by omega⟩ rfl (by simp) ?_ ?_ ?_ <;> simp only [ptSt, hs, qcs, qcq, qfc, htl] <;> (try refine ev_ ?_) <;> (try with_reducible exact ti_) <;> (try simp (disch := omega) only [qb, and_true, true_and])
     all_goals (rw [← hs]; exact ⟨qqg _ _, by rw [qrd]⟩)
    ·omega
  ·have hti : l.take i = l := List.take_of_length_le (by omega)
   rw [hti] at ha ⊢
   have hj := strings_Join (ls := l.map oneP) (sep := [44, 32]) (by simp; omega) (by have : (Lib.join (l.map oneP) [44, 32]).length = (qj4 l).length := rfl; unfold Big at hJ; omega)
   have m1 : 1 + (qj4 l).length ≤ maxLen := qbf (by omega)
   have m2 : (qj4 l).length + 1 + 1 ≤ maxLen := qbf (by omega)
   have e : qmk l = if 1 < l.length then 40 :: (qj4 l ++ [41]) else qj4 l := by rw [qmk, if_pos ha]
   change qj Tryz.prog _ [.sl 1 (ones l), _] (.str (qj4 l)) at hj
   by_cases h0 : l = []
   ·rw [h0] at hj e ⊢
    simp only [qmc, q6, qz] at hj ⊢
    repeat' (first | refine vs_ ?_ | ((first | refine vr_ ?_ | fail) <;> (try simp only [qba, go_sem, ↓reduceIte])) | ((first | (refine cs_ ?_ ?_ <;> intro hc) | refine cj_ ?_ | simp (disch := omega) only [encs_getN, qb] | refine qa hj fun _ => ?_) <;> (try refine ev_ ?_)) | with_reducible exact ti_)
    ·omega
    ·omega
    ·rw [e, if_neg (by simp)]
   ·simp only [qb1 (ql5 h0), qb0 (ql5 h0), qfc]
    repeat' (first | refine vs_ ?_ | ((first | refine vr_ ?_ | fail) <;> (try simp only [qfc, go_sem, ↓reduceIte])) | ((first | (refine cs_ ?_ ?_ <;> intro hc) | refine cj_ ?_ | simp (disch := omega) only [encs_getN, qb] | refine qa hj fun _ => ?_) <;> (try refine ev_ ?_)) | with_reducible exact ti_)
    ·omega
    ·rw [e, if_pos (by omega)]
    ·rw [e, if_neg (by omega)]
set_option maxRecDepth 4000

set_option maxHeartbeats 1000000 in
theorem qfn (x : Ins) : qj Tryz.prog 12 [encI x] (.int .i64 (chkI x)) := by
 refine qd c0e (by simp) (by simp only [go_sem]) rfl fun hw => ?_
 have hl := (qdi (qje hw.1).2.2.2).1
 unfold k0e
 refine qb5 (qef ?_)
 (refine ev_ ?_; (try with_reducible exact ti_))
 refine qdu (S := Unit) (fun _ => True) (fun _ => (⟨[(1, .ptr 0 0), (3, .bool (hdI x))], []⟩, [.blk (idc x)])) ?_ fun _ _ => ?_
 ·repeat' (first | refine vs_ ?_ | ((first | refine vr_ ?_ | refine qa (qf5 _) fun _ => ?_ | (refine cs_ ?_ ?_ <;> intro hc) | refine cj_ ?_ | simp (disch := omega) only [encs_getN, qb]) <;> (try refine ev_ ?_)) | with_reducible exact ti_)
  all_goals (refine qh () [0] trivial rfl (by simp) ?_ ?_ ?_ <;> (try refine ev_ ?_) <;> (try with_reducible exact ti_) <;> (try simp (disch := omega) only [qb, and_true, true_and]))
  all_goals simp_all [hdI, arrW]
  all_goals omega
 ·repeat' (first | refine vs_ ?_ | ((first | refine vr_ ?_ | (refine cs_ ?_ ?_ <;> intro hc) | refine cj_ ?_ | simp (disch := omega) only [encs_getN, qb]) <;> (try refine ev_ ?_)) | with_reducible exact ti_)
  refine qo (S := Nat) (fun i => i ≤ x.ps.length) (fun i => (⟨[(1, .ptr 0 0), (3, .bool (hdI x && (x.ps.take i).all (plnI x.n))), (35, .sl 4 (qy x.ps)), (36, .int .i64 x.ps.length), (37, .int .i64 i)], []⟩, [.blk (idc x)])) (fun i => x.ps.length - i) ?_ fun i hi => ?_
  ·refine qh 0 [0] (Nat.zero_le _) rfl (by simp) ?_ ?_ ?_ <;> (try refine ev_ ?_) <;> (try with_reducible exact ti_) <;> (try simp (disch := omega) only [qb, and_true, true_and])
   all_goals (simp)
  ·by_cases hlt : i < x.ps.length
   ·have hg := qbr hlt
    have hpl := qqv (x.ps.getD i P0) x.n
    have hnx : (x.ps.take (i + 1)).all (plnI x.n) = ((x.ps.take i).all (plnI x.n) && plnI x.n (x.ps.getD i P0)) := by
     rw [qg9 hlt, List.all_append]; simp
    generalize hd : hdI x = d
    generalize ha : (x.ps.take i).all (plnI x.n) = a at hnx
    generalize hq : plnI x.n (x.ps.getD i P0) = q at hnx hpl
    cases d <;> cases a
    all_goals (repeat' (first | refine vs_ ?_ | ((first | refine vr_ ?_ | fail) <;> (try simp (disch := first | omega | (simp only [List.length_set, List.length_append, List.length_cons, List.length_nil]; done) | (simp only [List.length_set, List.length_append, List.length_cons, List.length_nil]; omega)) only [hg, qb, go_sem, ↓reduceIte])) | ((first | simp (disch := omega) only [hg] | (refine cs_ ?_ ?_ <;> intro hc) | refine cj_ ?_ | simp (disch := omega) only [encs_getN, qb] | refine qa hpl fun _ => ?_) <;> (try refine ev_ ?_)) | with_reducible exact ti_))
    all_goals try (exfalso; omega)
    all_goals (refine qh (i + 1) [0] ⟨by omega, by omega⟩ rfl (by simp) ?_ ?_ ?_ <;> (try refine ev_ ?_) <;> (try with_reducible exact ti_) <;> (try simp (disch := omega) only [qb, and_true, true_and]))
    all_goals (rw [hnx])
    all_goals rfl
   ·have hie : i = x.ps.length := by omega
    subst hie
    rw [List.take_length]
    have hch : chkI x = if (hdI x && x.ps.all (plnI x.n)) = true then 0 else 10 := by rw [chkI]; simp only [Bool.and_eq_true]
    rw [hch]
    generalize (hdI x && x.ps.all (plnI x.n)) = b
    cases b
    all_goals (repeat' (first | refine vs_ ?_ | ((first | refine vr_ ?_ | (refine cs_ ?_ ?_ <;> intro hc) | refine cj_ ?_ | simp (disch := omega) only [encs_getN, qb]) <;> (try refine ev_ ?_)) | with_reducible exact ti_))
    all_goals try (exfalso; omega)
    all_goals rfl
def ovlI (l : List Ins) : Nat → Nat → Int × Int × Bool
 | 0, _ => (0, 0, false)
 | n + 1, i => if (fndI (l.getD i I0).cls (l.getD i I0).con (l.take i) 0).2 = true then ((fndI (l.getD i I0).cls (l.getD i I0).con (l.take i) 0).1, (i : Int), true) else ovlI l n (i + 1)
def ovlA (r : Int × Int × Bool) : AV := .tup [.int .i64 r.1, .int .i64 r.2.1, .bool r.2.2]
set_option maxHeartbeats 1000000 in
theorem qmm (l : List Ins) : qj Tryz.prog 8 [.sl 4 (qbo l)] (ovlA (ovlI l l.length 0)) := by
 refine qd c0f (by simp) (by simp only [go_sem]) rfl fun hw => ?_
 have hl := (qdp hw.1).1
 repeat' (first | refine vs_ ?_ | ((first | refine vr_ ?_ | (refine cs_ ?_ ?_ <;> intro hc) | refine cj_ ?_ | simp (disch := omega) only [encs_getN, qb]) <;> (try refine ev_ ?_)) | with_reducible exact ti_)
 refine qo (S := Nat) (fun i => i ≤ l.length ∧ ovlI l (l.length - i) i = ovlI l l.length 0) (fun i => (⟨[(0, .sl 4 (qbo l)), (5, .int .i64 0), (6, .int .i64 0), (7, .bool false), (12, .sl 4 (qbo l)), (13, .int .i64 l.length), (14, .int .i64 i)], []⟩, [])) (fun i => l.length - i) ?_ fun i hi => ?_
 ·refine qh 0 [] ⟨Nat.zero_le _, rfl⟩ rfl (by simp) ?_ ?_ ?_ <;> (try refine ev_ ?_) <;> (try with_reducible exact ti_) <;> (try simp (disch := omega) only [qb, and_true, true_and])
 ·obtain ⟨hi, ha⟩ := hi
  by_cases hlt : i < l.length
  ·have hg := qci hlt
   rw [show l.length - i = (l.length - (i + 1)) + 1 by omega, ovlI] at ha
   have hlen : (l.take i).length = i := by rw [List.length_take]; omega
   repeat' (first | refine vs_ ?_ | ((first | refine vr_ ?_ | fail) <;> (try simp (disch := first | omega | (simp only [List.length_set, List.length_append, List.length_cons, List.length_nil]; done) | (simp only [List.length_set, List.length_append, List.length_cons, List.length_nil]; omega)) only [hg, qb, hlen, go_sem, ↓reduceIte])) | ((first | simp (disch := omega) only [hg] | simp (disch := omega) only [hlen] | (refine cs_ ?_ ?_ <;> intro hc) | refine cj_ ?_ | simp (disch := omega) only [encs_getN, qb]) <;> (try refine ev_ ?_)) | with_reducible exact ti_)
   all_goals try (exfalso; omega)
   have hgl : (l.take i).length = i := hlen
   generalize hx : l.getD i I0 = x at ha ⊢
   generalize hL : l.take i = L at ha hgl ⊢
   refine qo (S := Nat) (fun k => k ≤ i ∧ fndI x.cls x.con (L.drop k) k = fndI x.cls x.con L 0) (fun k => (⟨[(0, .sl 4 (qbo l)), (5, .int .i64 0), (6, .int .i64 0), (7, .bool false), (8, .int .i64 i), (9, .ptr 0 0), (12, .sl 4 (qbo l)), (13, .int .i64 l.length), (14, .int .i64 i), (21, .sl 4 (qbo L)), (22, .int .i64 i), (23, .int .i64 k)], []⟩, [.blk (idc x)])) (fun k => i - k) ?_ fun k hk => ?_
   ·refine qh 0 [0] ⟨Nat.zero_le _, rfl⟩ rfl (by simp) ?_ ?_ ?_ <;> (try refine ev_ ?_) <;> (try with_reducible exact ti_) <;> (try simp (disch := omega) only [qb, and_true, true_and])
   ·obtain ⟨hk, hb⟩ := hk
    by_cases hki : k < i
    ·have hg := qci (l := L) (i := k) (by omega)
     rw [qj5 (by omega)] at hb
     repeat' (first | refine vs_ ?_ | ((first | refine vr_ ?_ | fail) <;> (try simp (disch := first | omega | (simp only [List.length_set, List.length_append, List.length_cons, List.length_nil]; done) | (simp only [List.length_set, List.length_append, List.length_cons, List.length_nil]; omega)) only [hg, qb, go_sem, ↓reduceIte])) | ((first | simp (disch := omega) only [hg] | (refine cs_ ?_ ?_ <;> intro hc) | refine cj_ ?_ | simp (disch := omega) only [encs_getN, qb]) <;> (try refine ev_ ?_)) | with_reducible exact ti_)
     all_goals try (exfalso; omega)
     ·rw [if_pos ⟨by symm; assumption, by symm; assumption⟩] at hb
      rw [← hb, if_pos rfl] at ha
      rw [← ha]
      all_goals rfl
     all_goals (rw [if_neg (by rintro ⟨a, b⟩; have a := a.symm; have b := b.symm; contradiction)] at hb)
     all_goals (refine qh (k + 1) [0] ⟨⟨by omega, hb⟩, by omega⟩ rfl (by simp) ?_ ?_ ?_ <;> (try refine ev_ ?_) <;> (try with_reducible exact ti_) <;> (try simp (disch := omega) only [qb, and_true, true_and]))
    ·rw [qlo (by omega)] at hb
     rw [← hb, if_neg (by simp)] at ha
     repeat' (first | refine vs_ ?_ | ((first | refine vr_ ?_ | (refine cs_ ?_ ?_ <;> intro hc) | refine cj_ ?_ | simp (disch := omega) only [encs_getN, qb]) <;> (try refine ev_ ?_)) | with_reducible exact ti_)
     all_goals try (exfalso; omega)
     refine qh (i + 1) [] ⟨⟨by omega, ha⟩, by omega⟩ rfl (by simp) ?_ ?_ ?_ <;> (try refine ev_ ?_) <;> (try with_reducible exact ti_) <;> (try simp (disch := omega) only [qb, and_true, true_and])
  ·have hie : i = l.length := by omega
   subst hie
   rw [Nat.sub_self, ovlI] at ha
   repeat' (first | refine vs_ ?_ | ((first | refine vr_ ?_ | (refine cs_ ?_ ?_ <;> intro hc) | refine cj_ ?_ | simp (disch := omega) only [encs_getN, qb]) <;> (try refine ev_ ?_)) | with_reducible exact ti_)
   all_goals try (exfalso; omega)
   all_goals (rw [← ha]; rfl)
def insW : List UInt8 := [105, 110, 115, 116, 97, 110, 99, 101, 32]
def txtI (x : Ins) : List UInt8 := if chkI x = 0 then insW ++ ((if x.ps = [] then [] else qmk x.ps ++ [32, 61, 62, 32]) ++ (x.cls ++ 32 :: parW (decide (0 < x.n)) (qd3 (qeu x)))) else []
def vsI (n : Nat) : List Ty := (List.range n).map fun (i : Nat) => .mk [] (i : Int) []
theorem qve (n : Nat) : (vsI n).length = n := by simp [vsI]
theorem qq1 (n : Nat) : vsI (n + 1) = vsI n ++ [.mk [] (n : Int) []] := by rw [vsI, vsI, List.range_succ, List.map_append]; rfl
theorem qsh (x : Ins) : qeu x = .mk x.con 0 (vsI x.n.toNat) := rfl
def okI (x : Ins) : Prop := (∀ p ∈ x.ps, okP p) ∧ x.ps.length ≤ 30 ∧ (qj4 x.ps).length + x.cls.length + (qd3 (qeu x)).length + 100 ≤ Big
theorem qe7 : vsI 0 = [] := rfl
def txSt (x : Ins) (i : Nat) : AF × List Ent := (⟨[(1, .ptr 0 0), (3, .ptr 1 0), (13, .int .i64 x.n), (14, .int .i64 i)], []⟩, [.blk (idc x), .blk [.str x.con, .int .i64 0, accV 2 (qi (vsI i))]] ++ accE 3 (qi (vsI i)))
set_option maxHeartbeats 1000000 in
theorem quc {x : Ins} (hx : okI x) : qj Tryz.prog 14 [encI x] (.str (txtI x)) := by
 refine qd c0g (by simp) (by simp only [go_sem]) rfl fun hw => ?_
 have hl := (qdi (qje hw.1).2.2.2).1
 have hC := qfn x
 by_cases hch : chkI x = 0
 case neg =>
  have hd : decide (chkI x = 0) = false := decide_eq_false hch
  rw [txtI, if_neg hch]
  repeat' (first | refine vs_ ?_ | ((first | refine vr_ ?_ | fail) <;> (try simp only [hd, hch, go_sem, ↓reduceIte])) | ((first | (refine cs_ ?_ ?_ <;> intro hc) | refine cj_ ?_ | simp (disch := omega) only [encs_getN, qb] | refine qa hC fun _ => ?_) <;> (try refine ev_ ?_)) | with_reducible exact ti_)
 rw [hch] at hC
 repeat' (first | refine vs_ ?_ | ((first | refine vr_ ?_ | refine qa hC fun _ => ?_ | (refine cs_ ?_ ?_ <;> intro hc) | refine cj_ ?_ | simp (disch := omega) only [encs_getN, qb]) <;> (try refine ev_ ?_)) | with_reducible exact ti_)
 have hxd : hdI x = true := by
  rw [chkI] at hch
  split at hch
  ·rename_i h1; exact h1.1
  ·cases hch
 simp only [hdI, Bool.and_eq_true, decide_eq_true_eq] at hxd
 obtain ⟨_, _, hn0, hn1⟩ := hxd
 obtain ⟨m, hm⟩ : ∃ m : Nat, x.n = m := ⟨x.n.toNat, by omega⟩
 have hm1 : m ≤ 100 := by omega
 refine qo (S := Nat) (fun i => i ≤ m) (txSt x) (fun i => m - i) ?_ fun i hi => ?_
 ·refine qh 0 [0, 1] (Nat.zero_le _) rfl (by simp) ?_ ?_ ?_ <;> simp only [txSt, qe7, qbt, q6, qz, List.append_nil] <;> (try refine ev_ ?_) <;> (try with_reducible exact ti_) <;> (try simp (disch := omega) only [qb, and_true, true_and])
 ·unfold txSt
  have hv := qve i
  by_cases hlt : i < m
  ·have hE : qi (vsI (i + 1)) = qi (vsI i) ++ [.agg [.str [], .int .i64 i, .sl 3 []]] := by
    rw [qq1, ← qc9]; simp only [encY, qi]
   have hcap : qbv (i + 1) 48 = True := eq_true (by unfold qbv; omega)
   by_cases hi0 : i = 0
   ·subst hi0
    simp only [qe7, qbt, q6, qz, List.append_nil]
    repeat' (first | refine vs_ ?_ | ((first | refine vr_ ?_ | fail) <;> (try simp (disch := first | omega | (simp only [List.length_set, List.length_append, List.length_cons, List.length_nil]; done) | (simp only [List.length_set, List.length_append, List.length_cons, List.length_nil]; omega)) only [qb, go_sem, ↓reduceIte])) | ((first | simp (disch := omega) only [hcap] | (refine cs_ ?_ ?_ <;> intro hc) | refine cj_ ?_ | simp (disch := omega) only [encs_getN, qb]) <;> (try refine ev_ ?_)) | with_reducible exact ti_)
    all_goals try (exfalso; omega)
    have hE1 : qi (vsI (0 + 1)) = [.agg [.str [], .int .i64 0, .sl 3 []]] := by rw [hE]; rfl
    refine qh (0 + 1) [0, 1, 2] ⟨by omega, by omega⟩ rfl (by simp) ?_ ?_ ?_ <;> simp only [txSt, hE1, qdj, qdk, List.cons_append, List.nil_append] <;> (try refine ev_ ?_) <;> (try with_reducible exact ti_) <;> (try simp (disch := omega) only [qb, and_true, true_and])
    all_goals rfl
   ·have hne : qi (vsI i) ≠ [] := fun h => by have := congrArg List.length h; rw [qn, hv] at this; simp at this; omega
    simp only [qb1 hne, qb0 hne, qn, hv, List.cons_append, List.nil_append]
    repeat' (first | refine vs_ ?_ | ((first | refine vr_ ?_ | fail) <;> (try simp (disch := first | omega | (simp only [List.length_set, List.length_append, List.length_cons, List.length_nil]; done) | (simp only [List.length_set, List.length_append, List.length_cons, List.length_nil]; omega)) only [qb, qn, hv, go_sem, ↓reduceIte])) | ((first | simp (disch := omega) only [hcap] | (refine cs_ ?_ ?_ <;> intro hc) | refine cj_ ?_ | simp (disch := omega) only [encs_getN, qb]) <;> (try refine ev_ ?_)) | with_reducible exact ti_)
    all_goals try (exfalso; omega)
    refine qh (i + 1) [0, 1, 3] ⟨by omega, by omega⟩ rfl (by simp) ?_ ?_ ?_ <;> simp only [txSt, hE, qcs, qcq, qn, hv, List.cons_append, List.nil_append] <;> (try refine ev_ ?_) <;> (try with_reducible exact ti_) <;> (try simp (disch := omega) only [qb, and_true, true_and])
    ·rw [← hE]; exact ⟨qbs _ _, by rw [qct]⟩
    ·rw [qw (by omega) (by omega), Int.natCast_add]; rfl
  ·have him : i = m := by omega
   subst him
   have hH : qeu x = .mk x.con 0 (vsI i) := by rw [qsh, hm]; rfl
   have hlg := qhd hch
   obtain ⟨z1, z2, _⟩ := (qs _).1 hlg
   obtain ⟨k1, k2, k3⟩ := hx
   have hT := qfg (t := qeu x) (by omega) (by omega) (by omega)
   have hP := qux x.ps k2 k1 (by omega)
   have hfold : AV.agg [.str x.con, .int .i64 0, .sl 3 (qi (vsI i))] = encY (qeu x) := by rw [hH, encY]
   obtain ⟨A, hA⟩ : ∃ A, qd3 (qeu x) = A := ⟨_, rfl⟩
   rw [hA] at hT k3
   have hJl : (qmk x.ps).length ≤ (qj4 x.ps).length + 2 := by
    rw [qmk]; split
    ·split
     ·simp
     ·omega
    ·simp
   obtain ⟨B, hB⟩ : ∃ B, qmk x.ps = B := ⟨_, rfl⟩
   rw [hB] at hP hJl
   have m1 : 1 + A.length ≤ maxLen := qbf (by omega)
   have m2 : A.length + 1 + 1 ≤ maxLen := qbf (by omega)
   have m3 : x.cls.length + 1 ≤ maxLen := qbf (by omega)
   have m4 : x.cls.length + 1 + A.length ≤ maxLen := qbf (by omega)
   have m5 : x.cls.length + 1 + (A.length + 1 + 1) ≤ maxLen := qbf (by omega)
   have m6 : B.length + 4 ≤ maxLen := qbf (by omega)
   have m7 : B.length + 4 + (x.cls.length + (A.length + 1)) ≤ maxLen := qbf (by omega)
   have m8 : B.length + 4 + (x.cls.length + (A.length + 1 + 1 + 1)) ≤ maxLen := qbf (by omega)
   have m9 : 9 + (x.cls.length + (A.length + 1)) ≤ maxLen := qbf (by omega)
   have n1 : 9 + (x.cls.length + (A.length + 1 + 1 + 1)) ≤ maxLen := qbf (by omega)
   have n2 : 9 + (B.length + (x.cls.length + (A.length + 1) + 1 + 1 + 1 + 1)) ≤ maxLen := qbf (by omega)
   have n3 : 9 + (B.length + (x.cls.length + (A.length + 1 + 1 + 1) + 1 + 1 + 1 + 1)) ≤ maxLen := qbf (by omega)
   by_cases hi0 : i = 0
   ·subst hi0
    simp only [qe7, qbt, q6, qz, List.append_nil] at hfold ⊢
    refine qj3 1 2 (.sl 3) rfl ?_
    simp only [List.getD_cons_succ, List.getD_cons_zero, qba, List.set_cons_zero, List.set_cons_succ]
    repeat' (first | refine vs_ ?_ | ((first | refine vr_ ?_ | fail) <;> (try simp only [hfold, go_sem, ↓reduceIte])) | ((first | simp (disch := omega) only [hfold] | (refine cs_ ?_ ?_ <;> intro hc) | refine cj_ ?_ | simp (disch := omega) only [encs_getN, qb] | refine qa hT fun _ => ?_ | refine qa hP fun _ => ?_) <;> (try refine ev_ ?_)) | with_reducible exact ti_)
    all_goals try (exfalso; omega)
    all_goals (rw [txtI, if_pos hch, hA, hB])
    all_goals (by_cases hz : x.ps = [])
    all_goals first
     | (exfalso; have hz' := congrArg List.length hz; simp only [List.length_nil] at hz'; omega)
     | (exfalso; have hz' : x.ps.length ≠ 0 := fun h => hz (List.length_eq_zero_iff.1 h); omega)
     | skip
    all_goals first | (have hn : 0 < x.n := by omega) | (have hn : ¬ 0 < x.n := by omega)
    all_goals (simp only [hz, hn, parW, insW, if_true, if_false, decide_true, decide_false, List.cons_append, List.nil_append, List.append_assoc, Bool.false_eq_true])
   ·have hne : qi (vsI i) ≠ [] := fun h => by have := congrArg List.length h; rw [qn, hv] at this; simp at this; omega
    simp only [qb1 hne, qb0 hne, qn, hv, List.cons_append, List.nil_append]
    refine qj3 1 2 (.sl 3) rfl ?_
    simp only [List.getD_cons_succ, List.getD_cons_zero, List.set_cons_zero, List.set_cons_succ]
    repeat' (first | refine vs_ ?_ | ((first | refine vr_ ?_ | fail) <;> (try simp only [hv, hfold, go_sem, ↓reduceIte])) | ((first | simp (disch := omega) only [hfold] | (refine cs_ ?_ ?_ <;> intro hc) | refine cj_ ?_ | simp (disch := omega) only [encs_getN, qb] | refine qa hT fun _ => ?_ | refine qa hP fun _ => ?_) <;> (try refine ev_ ?_)) | with_reducible exact ti_)
    all_goals try (exfalso; omega)
    all_goals (rw [txtI, if_pos hch, hA, hB])
    all_goals (by_cases hz : x.ps = [])
    all_goals first
     | (exfalso; have hz' := congrArg List.length hz; simp only [List.length_nil] at hz'; omega)
     | (exfalso; have hz' : x.ps.length ≠ 0 := fun h => hz (List.length_eq_zero_iff.1 h); omega)
     | skip
    all_goals first | (have hn : 0 < x.n := by omega) | (have hn : ¬ 0 < x.n := by omega)
    all_goals (simp only [hz, hn, parW, insW, if_true, if_false, decide_true, decide_false, List.cons_append, List.nil_append, List.append_assoc, Bool.false_eq_true])
end Go.Proofs.YtbbjelfnocmaoaaGreat
