/- A text of this proof. -/
import Derived.Test.YtbbjelfnocmaoaaGreatDbj
import Derived.Test.YtbbjelfnocmaoaaGreatDax

/- instances' heads: whether one may be, overlap, text -/
set_option maxRecDepth 4000
namespace Go.Proofs.YtbbjelfnocmaoaaGreat
open Go Go.RowKit Go.V
set_option linter.unusedVariables false
set_option linter.unusedSimpArgs false

set_option maxHeartbeats 1000000 in
theorem qd5 (x : Ins) : qg Tryz.prog 12 [encI x] (.int .i64 (chkI x)) := by
 refine qd c0cd (by simp) (by simp only [go_sem]) rfl fun hw => ?_
 have hl := (qb7 (qjt hw.1).2.2.2).1
 unfold k0cd
 refine qcj (qhy ?_)
 (refine ev_ ?_; (try with_reducible exact ti_))
 refine qjw (S := Unit) (fun _ => True) (fun _ => (⟨[(1, .ptr 0 0), (3, .bool (hdI x))], []⟩, [.blk (idc x)])) ?_ fun _ _ => ?_
 ·repeat' (first | refine vs_ ?_ | ((first | refine vr_ ?_ | refine qa (qgr _) fun _ => ?_ | (refine cs_ ?_ ?_ <;> intro hc) | refine cj_ ?_ | simp (disch := omega) only [encs_getN, qb]) <;> (try refine ev_ ?_)) | with_reducible exact ti_)
  all_goals (refine qh () [0] trivial rfl (by simp) ?_ ?_ ?_ <;> (try refine ev_ ?_) <;> (try with_reducible exact ti_) <;> (try simp (disch := omega) only [qb, and_true, true_and]))
  all_goals simp_all [hdI, arrW]
  all_goals omega
 ·repeat' (first | refine vs_ ?_ | ((first | refine vr_ ?_ | (refine cs_ ?_ ?_ <;> intro hc) | refine cj_ ?_ | simp (disch := omega) only [encs_getN, qb]) <;> (try refine ev_ ?_)) | with_reducible exact ti_)
  refine qm (S := Nat) (fun i => i ≤ x.ps.length) (fun i => (⟨[(1, .ptr 0 0), (3, .bool (hdI x && (x.ps.take i).all (plnI x.n))), (35, .sl 4 (qu x.ps)), (36, .int .i64 x.ps.length), (37, .int .i64 i)], []⟩, [.blk (idc x)])) (fun i => x.ps.length - i) ?_ fun i hi => ?_
  ·refine qh 0 [0] (Nat.zero_le _) rfl (by simp) ?_ ?_ ?_ <;> (try refine ev_ ?_) <;> (try with_reducible exact ti_) <;> (try simp (disch := omega) only [qb, and_true, true_and])
   all_goals (simp)
  ·by_cases hlt : i < x.ps.length
   ·have hg := qbf hlt
    have hpl := qqa (x.ps.getD i P0) x.n
    have hnx : (x.ps.take (i + 1)).all (plnI x.n) = ((x.ps.take i).all (plnI x.n) && plnI x.n (x.ps.getD i P0)) := by
     rw [qg3 hlt, List.all_append]; simp
    generalize hd : hdI x = d
    generalize ha : (x.ps.take i).all (plnI x.n) = a at hnx
    generalize hq : plnI x.n (x.ps.getD i P0) = q at hnx hpl
    cases d <;> cases a
    all_goals (repeat' (first | refine vs_ ?_ | ((first | refine vr_ ?_ | fail) <;> (try simp (disch := first | omega | (simp only [List.length_set, List.length_append, List.length_cons, List.length_nil]; done) | (simp only [List.length_set, List.length_append, List.length_cons, List.length_nil]; omega)) only [hg, qb, go_sem, ↓reduceIte])) | ((first | simp (disch := omega) only [hg] | (refine cs_ ?_ ?_ <;> intro hc) | refine cj_ ?_ | simp (disch := omega) only [encs_getN, qb] | refine qa hpl fun _ => ?_) <;> (try refine ev_ ?_)) | with_reducible exact ti_))
    all_goals try (exfalso; omega)
    all_goals (refine qh (i + 1) [0] ⟨by omega, by omega⟩ rfl (by simp) ?_ ?_ ?_ <;> (try refine ev_ ?_) <;> (try with_reducible exact ti_) <;> (try simp (disch := omega) only [qb, and_true, true_and]))
    all_goals (rw [hnx])
    all_goals rfl
   ·have hie : i = x.ps.length := by omega
    subst hie
    rw [List.take_length]
    have hch : chkI x = if (hdI x && x.ps.all (plnI x.n)) = true then 0 else 10 := by rw [chkI]; simp only [Bool.and_eq_true]
    rw [hch]
    generalize (hdI x && x.ps.all (plnI x.n)) = b
    cases b
    all_goals (repeat' (first | refine vs_ ?_ | ((first | refine vr_ ?_ | (refine cs_ ?_ ?_ <;> intro hc) | refine cj_ ?_ | simp (disch := omega) only [encs_getN, qb]) <;> (try refine ev_ ?_)) | with_reducible exact ti_))
    all_goals try (exfalso; omega)
    all_goals rfl
def ovlI (l : List Ins) : Nat → Nat → Int × Int × Bool
 | 0, _ => (0, 0, false)
 | n + 1, i => if (fndI (l.getD i I0).cls (l.getD i I0).con (l.take i) 0).2 = true then ((fndI (l.getD i I0).cls (l.getD i I0).con (l.take i) 0).1, (i : Int), true) else ovlI l n (i + 1)
def ovlA (r : Int × Int × Bool) : AV := .tup [.int .i64 r.1, .int .i64 r.2.1, .bool r.2.2]
set_option maxHeartbeats 1000000 in
theorem qge (l : List Ins) : qg Tryz.prog 8 [.sl 4 (qbo l)] (ovlA (ovlI l l.length 0)) := by
 refine qd c0ce (by simp) (by simp only [go_sem]) rfl fun hw => ?_
 have hl := (qe6 hw.1).1
 repeat' (first | refine vs_ ?_ | ((first | refine vr_ ?_ | (refine cs_ ?_ ?_ <;> intro hc) | refine cj_ ?_ | simp (disch := omega) only [encs_getN, qb]) <;> (try refine ev_ ?_)) | with_reducible exact ti_)
 refine qm (S := Nat) (fun i => i ≤ l.length ∧ ovlI l (l.length - i) i = ovlI l l.length 0) (fun i => (⟨[(0, .sl 4 (qbo l)), (5, .int .i64 0), (6, .int .i64 0), (7, .bool false), (12, .sl 4 (qbo l)), (13, .int .i64 l.length), (14, .int .i64 i)], []⟩, [])) (fun i => l.length - i) ?_ fun i hi => ?_
 ·refine qh 0 [] ⟨Nat.zero_le _, rfl⟩ rfl (by simp) ?_ ?_ ?_ <;> (try refine ev_ ?_) <;> (try with_reducible exact ti_) <;> (try simp (disch := omega) only [qb, and_true, true_and])
 ·obtain ⟨hi, ha⟩ := hi
  by_cases hlt : i < l.length
  ·have hg := qcl hlt
   rw [show l.length - i = (l.length - (i + 1)) + 1 by omega, ovlI] at ha
   have hlen : (l.take i).length = i := by rw [List.length_take]; omega
   repeat' (first | refine vs_ ?_ | ((first | refine vr_ ?_ | fail) <;> (try simp (disch := first | omega | (simp only [List.length_set, List.length_append, List.length_cons, List.length_nil]; done) | (simp only [List.length_set, List.length_append, List.length_cons, List.length_nil]; omega)) only [hg, qb, hlen, go_sem, ↓reduceIte])) | ((first | simp (disch := omega) only [hg] | simp (disch := omega) only [hlen] | (refine cs_ ?_ ?_ <;> intro hc) | refine cj_ ?_ | simp (disch := omega) only [encs_getN, qb]) <;> (try refine ev_ ?_)) | with_reducible exact ti_)
   all_goals try (exfalso; omega)
   have hgl : (l.take i).length = i := hlen
   generalize hx : l.getD i I0 = x at ha ⊢
   generalize hL : l.take i = L at ha hgl ⊢
   refine qm (S := Nat) (fun k => k ≤ i ∧ fndI x.cls x.con (L.drop k) k = fndI x.cls x.con L 0) (fun k => (⟨[(0, .sl 4 (qbo l)), (5, .int .i64 0), (6, .int .i64 0), (7, .bool false), (8, .int .i64 i), (9, .ptr 0 0), (12, .sl 4 (qbo l)), (13, .int .i64 l.length), (14, .int .i64 i), (21, .sl 4 (qbo L)), (22, .int .i64 i), (23, .int .i64 k)], []⟩, [.blk (idc x)])) (fun k => i - k) ?_ fun k hk => ?_
   ·refine qh 0 [0] ⟨Nat.zero_le _, rfl⟩ rfl (by simp) ?_ ?_ ?_ <;> (try refine ev_ ?_) <;> (try with_reducible exact ti_) <;> (try simp (disch := omega) only [qb, and_true, true_and])
   ·obtain ⟨hk, hb⟩ := hk
    by_cases hki : k < i
    ·have hg := qcl (l := L) (i := k) (by omega)
     rw [qjn (by omega)] at hb
     repeat' (first | refine vs_ ?_ | ((first | refine vr_ ?_ | fail) <;> (try simp (disch := first | omega | (simp only [List.length_set, List.length_append, List.length_cons, List.length_nil]; done) | (simp only [List.length_set, List.length_append, List.length_cons, List.length_nil]; omega)) only [hg, qb, go_sem, ↓reduceIte])) | ((first | simp (disch := omega) only [hg] | (refine cs_ ?_ ?_ <;> intro hc) | refine cj_ ?_ | simp (disch := omega) only [encs_getN, qb]) <;> (try refine ev_ ?_)) | with_reducible exact ti_)
     all_goals try (exfalso; omega)
     ·rw [if_pos ⟨by symm; assumption, by symm; assumption⟩] at hb
      rw [← hb, if_pos rfl] at ha
      rw [← ha]
      all_goals rfl
     all_goals (rw [if_neg (by rintro ⟨a, b⟩; have a := a.symm; have b := b.symm; contradiction)] at hb)
     all_goals (refine qh (k + 1) [0] ⟨⟨by omega, hb⟩, by omega⟩ rfl (by simp) ?_ ?_ ?_ <;> (try refine ev_ ?_) <;> (try with_reducible exact ti_) <;> (try simp (disch := omega) only [qb, and_true, true_and]))
    ·rw [ql9 (by omega)] at hb
     rw [← hb, if_neg (by simp)] at ha
     repeat' (first | refine vs_ ?_ | ((first | refine vr_ ?_ | (refine cs_ ?_ ?_ <;> intro hc) | refine cj_ ?_ | simp (disch := omega) only [encs_getN, qb]) <;> (try refine ev_ ?_)) | with_reducible exact ti_)
     all_goals try (exfalso; omega)
     refine qh (i + 1) [] ⟨⟨by omega, ha⟩, by omega⟩ rfl (by simp) ?_ ?_ ?_ <;> (try refine ev_ ?_) <;> (try with_reducible exact ti_) <;> (try simp (disch := omega) only [qb, and_true, true_and])
  ·have hie : i = l.length := by omega
   subst hie
   rw [Nat.sub_self, ovlI] at ha
   repeat' (first | refine vs_ ?_ | ((first | refine vr_ ?_ | (refine cs_ ?_ ?_ <;> intro hc) | refine cj_ ?_ | simp (disch := omega) only [encs_getN, qb]) <;> (try refine ev_ ?_)) | with_reducible exact ti_)
   all_goals try (exfalso; omega)
   all_goals (rw [← ha]; rfl)
def insW : List UInt8 := [105, 110, 115, 116, 97, 110, 99, 101, 32]
def txtI (x : Ins) : List UInt8 := if chkI x = 0 then insW ++ ((if x.ps = [] then [] else qfg x.ps ++ [32, 61, 62, 32]) ++ (x.cls ++ 32 :: parW (decide (0 < x.n)) (qb4 (qdo x)))) else []
def vsI (n : Nat) : List Ty := (List.range n).map fun (i : Nat) => .mk [] (i : Int) []
theorem ql1 (n : Nat) : (vsI n).length = n := by simp [vsI]
theorem qln (n : Nat) : vsI (n + 1) = vsI n ++ [.mk [] (n : Int) []] := by rw [vsI, vsI, List.range_succ, List.map_append]; rfl
theorem qgx (x : Ins) : qdo x = .mk x.con 0 (vsI x.n.toNat) := rfl
def okI (x : Ins) : Prop := (∀ p ∈ x.ps, okP p) ∧ x.ps.length ≤ 30 ∧ (qce x.ps).length + x.cls.length + (qb4 (qdo x)).length + 100 ≤ Big
theorem qe7 : vsI 0 = [] := rfl
def txSt (x : Ins) (i : Nat) : AF × List Ent := (⟨[(1, .ptr 0 0), (3, .ptr 1 0), (13, .int .i64 x.n), (14, .int .i64 i)], []⟩, [.blk (idc x), .blk [.str x.con, .int .i64 0, accV 2 (qj (vsI i))]] ++ accE 3 (qj (vsI i)))
set_option maxHeartbeats 1000000 in
theorem qkq {x : Ins} (hx : okI x) : qg Tryz.prog 14 [encI x] (.str (txtI x)) := by
 refine qd c0cf (by simp) (by simp only [go_sem]) rfl fun hw => ?_
 have hl := (qb7 (qjt hw.1).2.2.2).1
 have hC := qd5 x
 by_cases hch : chkI x = 0
 case neg =>
  have hd : decide (chkI x = 0) = false := decide_eq_false hch
  rw [txtI, if_neg hch]
  repeat' (first | refine vs_ ?_ | ((first | refine vr_ ?_ | fail) <;> (try simp only [hd, hch, go_sem, ↓reduceIte])) | ((first | (refine cs_ ?_ ?_ <;> intro hc) | refine cj_ ?_ | simp (disch := omega) only [encs_getN, qb] | refine qa hC fun _ => ?_) <;> (try refine ev_ ?_)) | with_reducible exact ti_)
 rw [hch] at hC
 repeat' (first | refine vs_ ?_ | ((first | refine vr_ ?_ | refine qa hC fun _ => ?_ | (refine cs_ ?_ ?_ <;> intro hc) | refine cj_ ?_ | simp (disch := omega) only [encs_getN, qb]) <;> (try refine ev_ ?_)) | with_reducible exact ti_)
 have hxd : hdI x = true := by
  rw [chkI] at hch
  split at hch
  ·rename_i h1; exact h1.1
  ·cases hch
 simp only [hdI, Bool.and_eq_true, decide_eq_true_eq] at hxd
 obtain ⟨_, _, hn0, hn1⟩ := hxd
 obtain ⟨m, hm⟩ : ∃ m : Nat, x.n = m := ⟨x.n.toNat, by omega⟩
 have hm1 : m ≤ 100 := by omega
 refine qm (S := Nat) (fun i => i ≤ m) (txSt x) (fun i => m - i) ?_ fun i hi => ?_
 ·refine qh 0 [0, 1] (Nat.zero_le _) rfl (by simp) ?_ ?_ ?_ <;> simp only [txSt, qe7, qbq, qx, qw, List.append_nil] <;> (try refine ev_ ?_) <;> (try with_reducible exact ti_) <;> (try simp (disch := omega) only [qb, and_true, true_and])
 ·unfold txSt
  have hv := ql1 i
  by_cases hlt : i < m
  ·have hE : qj (vsI (i + 1)) = qj (vsI i) ++ [.agg [.str [], .int .i64 i, .sl 3 []]] := by
    rw [qln, ← qc8]; simp only [encY, qj]
   have hcap : qcb (i + 1) 48 = True := eq_true (by unfold qcb; omega)
   by_cases hi0 : i = 0
   ·subst hi0
    simp only [qe7, qbq, qx, qw, List.append_nil]
    repeat' (first | refine vs_ ?_ | ((first | refine vr_ ?_ | fail) <;> (try simp (disch := first | omega | (simp only [List.length_set, List.length_append, List.length_cons, List.length_nil]; done) | (simp only [List.length_set, List.length_append, List.length_cons, List.length_nil]; omega)) only [qb, go_sem, ↓reduceIte])) | ((first | simp (disch := omega) only [hcap] | (refine cs_ ?_ ?_ <;> intro hc) | refine cj_ ?_ | simp (disch := omega) only [encs_getN, qb]) <;> (try refine ev_ ?_)) | with_reducible exact ti_)
    all_goals try (exfalso; omega)
    have hE1 : qj (vsI (0 + 1)) = [.agg [.str [], .int .i64 0, .sl 3 []]] := by rw [hE]; rfl
    refine qh (0 + 1) [0, 1, 2] ⟨by omega, by omega⟩ rfl (by simp) ?_ ?_ ?_ <;> simp only [txSt, hE1, qdh, qdd, List.cons_append, List.nil_append] <;> (try refine ev_ ?_) <;> (try with_reducible exact ti_) <;> (try simp (disch := omega) only [qb, and_true, true_and])
    all_goals rfl
   ·have hne : qj (vsI i) ≠ [] := fun h => by have := congrArg List.length h; rw [qo, hv] at this; simp at this; omega
    simp only [qbw hne, qbv hne, qo, hv, List.cons_append, List.nil_append]
    repeat' (first | refine vs_ ?_ | ((first | refine vr_ ?_ | fail) <;> (try simp (disch := first | omega | (simp only [List.length_set, List.length_append, List.length_cons, List.length_nil]; done) | (simp only [List.length_set, List.length_append, List.length_cons, List.length_nil]; omega)) only [qb, qo, hv, go_sem, ↓reduceIte])) | ((first | simp (disch := omega) only [hcap] | (refine cs_ ?_ ?_ <;> intro hc) | refine cj_ ?_ | simp (disch := omega) only [encs_getN, qb]) <;> (try refine ev_ ?_)) | with_reducible exact ti_)
    all_goals try (exfalso; omega)
    refine qh (i + 1) [0, 1, 3] ⟨by omega, by omega⟩ rfl (by simp) ?_ ?_ ?_ <;> simp only [txSt, hE, qco, qcs, qo, hv, List.cons_append, List.nil_append] <;> (try refine ev_ ?_) <;> (try with_reducible exact ti_) <;> (try simp (disch := omega) only [qb, and_true, true_and])
    ·rw [← hE]; exact ⟨qbr _ _, by rw [qcq]⟩
    ·rw [qt (by omega) (by omega), Int.natCast_add]; rfl
  ·have him : i = m := by omega
   subst him
   have hH : qdo x = .mk x.con 0 (vsI i) := by rw [qgx, hm]; rfl
   have hlg := qg1 hch
   obtain ⟨z1, z2, _⟩ := (qbe _).1 hlg
   obtain ⟨k1, k2, k3⟩ := hx
   have hT := qfe (t := qdo x) (by omega) (by omega) (by omega)
   have hP := qt1 x.ps k2 k1 (by omega)
   have hfold : AV.agg [.str x.con, .int .i64 0, .sl 3 (qj (vsI i))] = encY (qdo x) := by rw [hH, encY]
   obtain ⟨A, hA⟩ : ∃ A, qb4 (qdo x) = A := ⟨_, rfl⟩
   rw [hA] at hT k3
   have hJl : (qfg x.ps).length ≤ (qce x.ps).length + 2 := by
    rw [qfg]; split
    ·split
     ·simp
     ·omega
    ·simp
   obtain ⟨B, hB⟩ : ∃ B, qfg x.ps = B := ⟨_, rfl⟩
   rw [hB] at hP hJl
   have m1 : 1 + A.length ≤ maxLen := ql (by omega)
   have m2 : A.length + 1 + 1 ≤ maxLen := ql (by omega)
   have m3 : x.cls.length + 1 ≤ maxLen := ql (by omega)
   have m4 : x.cls.length + 1 + A.length ≤ maxLen := ql (by omega)
   have m5 : x.cls.length + 1 + (A.length + 1 + 1) ≤ maxLen := ql (by omega)
   have m6 : B.length + 4 ≤ maxLen := ql (by omega)
   have m7 : B.length + 4 + (x.cls.length + (A.length + 1)) ≤ maxLen := ql (by omega)
   have m8 : B.length + 4 + (x.cls.length + (A.length + 1 + 1 + 1)) ≤ maxLen := ql (by omega)
   have m9 : 9 + (x.cls.length + (A.length + 1)) ≤ maxLen := ql (by omega)
   have n1 : 9 + (x.cls.length + (A.length + 1 + 1 + 1)) ≤ maxLen := ql (by omega)
   have n2 : 9 + (B.length + (x.cls.length + (A.length + 1) + 1 + 1 + 1 + 1)) ≤ maxLen := ql (by omega)
   have n3 : 9 + (B.length + (x.cls.length + (A.length + 1 + 1 + 1) + 1 + 1 + 1 + 1)) ≤ maxLen := ql (by omega)
   by_cases hi0 : i = 0
   ·subst hi0
    simp only [qe7, qbq, qx, qw, List.append_nil] at hfold ⊢
    refine qie 1 2 (.sl 3) rfl ?_
    simp only [List.getD_cons_succ, List.getD_cons_zero, q8, List.set_cons_zero, List.set_cons_succ]
    repeat' (first | refine vs_ ?_ | ((first | refine vr_ ?_ | fail) <;> (try simp only [hfold, go_sem, ↓reduceIte])) | ((first | simp (disch := omega) only [hfold] | (refine cs_ ?_ ?_ <;> intro hc) | refine cj_ ?_ | simp (disch := omega) only [encs_getN, qb] | refine qa hT fun _ => ?_ | refine qa hP fun _ => ?_) <;> (try refine ev_ ?_)) | with_reducible exact ti_)
    all_goals try (exfalso; omega)
    all_goals (rw [txtI, if_pos hch, hA, hB])
    all_goals (by_cases hz : x.ps = [])
    all_goals first
     | (exfalso; have hz' := congrArg List.length hz; simp only [List.length_nil] at hz'; omega)
     | (exfalso; have hz' : x.ps.length ≠ 0 := fun h => hz (List.length_eq_zero_iff.1 h); omega)
     | skip
    all_goals first | (have hn : 0 < x.n := by omega) | (have hn : ¬ 0 < x.n := by omega)
    all_goals (simp only [hz, hn, parW, insW, if_true, if_false, decide_true, decide_false, List.cons_append, List.nil_append, List.append_assoc, Bool.false_eq_true])
   ·have hne : qj (vsI i) ≠ [] := fun h => by have := congrArg List.length h; rw [qo, hv] at this; simp at this; omega
    simp only [qbw hne, qbv hne, qo, hv, List.cons_append, List.nil_append]
    refine qie 1 2 (.sl 3) rfl ?_
    simp only [List.getD_cons_succ, List.getD_cons_zero, List.set_cons_zero, List.set_cons_succ]
    repeat' (first | refine vs_ ?_ | ((first | refine vr_ ?_ | fail) <;> (try simp only [hv, hfold, go_sem, ↓reduceIte])) | ((first | simp (disch := omega) only [hfold] | (refine cs_ ?_ ?_ <;> intro hc) | refine cj_ ?_ | simp (disch := omega) only [encs_getN, qb] | refine qa hT fun _ => ?_ | refine qa hP fun _ => ?_) <;> (try refine ev_ ?_)) | with_reducible exact ti_)
    all_goals try (exfalso; omega)
    all_goals (rw [txtI, if_pos hch, hA, hB])
    all_goals (by_cases hz : x.ps = [])
    all_goals first
     | (exfalso; have hz' := congrArg List.length hz; simp only [List.length_nil] at hz'; omega)
     | (exfalso; have hz' : x.ps.length ≠ 0 := fun h => hz (List.length_eq_zero_iff.1 h); omega)
     | skip
    all_goals first | (have hn : 0 < x.n := by omega) | (have hn : ¬ 0 < x.n := by omega)
    all_goals (simp only [hz, hn, parW, insW, if_true, if_false, decide_true, decide_false, List.cons_append, List.nil_append, List.append_assoc, Bool.false_eq_true])
end Go.Proofs.YtbbjelfnocmaoaaGreat
