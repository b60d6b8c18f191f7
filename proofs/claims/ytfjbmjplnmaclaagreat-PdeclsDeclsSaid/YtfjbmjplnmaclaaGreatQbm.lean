/- A text of this proof. -/
import Derived.Test.YtfjbmjplnmaclaaGreatQbi

/- declarations: both read alike -/
namespace Go.Proofs.YtfjbmjplnmaclaaGreat
open Go Go.RowKit Go.V
set_option linter.unusedVariables false
set_option linter.unusedSimpArgs false
set_option linter.unusedSectionVars false

theorem noBd : ¬ (false = true) := by decide
theorem qsi (c : K) : qd6 (qgh c) (qb7 c) := qjz (fun c h => by rw [qjc _ h]) (qkr (rest c + 2)) (by have := qgo c; omega)
theorem qy4 {c : K} (hn : NoEnd c) : qd6 (qd3 c) (qfc c) := qq1 (fun c h => by rw [qjc _ h]) (qkr (rest c + 2)) (qcy _) (qcl _) hn (by have := qgo c; omega)
theorem qqt {c : K} (hn : NoEnd c) : qd6 (qh4 c) (qfl c) := qr4 (fun c h => qtq _ h) (qzl (rest c + 2)) hn (by have := qgo c; omega)
theorem qyb {c : K} (h : c.err ≠ 0) : (qb7 c).1 = c := by unfold qb7 qcq; rw [if_neg h]
theorem qjm {p : K → Bool} (hp : ∀ c, p c = true → begT c = true) {c : K} (h : c.err ≠ 0) (g : Nat) (acc : List N) : qfb p g c acc = (c, acc) := by
 cases g with
 | zero => rfl
 | succ g =>
   rw [qfb, if_neg]
   intro q
   have := hp c q
   rw [qwd h] at this; cases this
def AlL (out : List N) (p : RL) (r : K × List N) : Prop := p.1 = r.1 ∧ (p.2.2 = true → p.2.1 = out ++ r.2) ∧ (p.2.2 = false → p.1.err ≠ 0)
def AlR (p : R3) (r : K × N) : Prop := p.1 = r.1 ∧ (p.2.2 = true → p.2.1 = r.2) ∧ (p.2.2 = false → p.1.err ≠ 0)
theorem qbmw {p : K × Option N} {r : K × N} (h : qd6 p r) : AlR (ofO p) r := by
 refine ⟨h.1, fun q => ?_, fun q => ?_⟩
 ·exact qiy h q
 ·exact qi0 h (by intro e; have : (ofO p).2.2 = true := e; rw [this] at q; cases q)
theorem q3s {p : K → Bool} (hp : ∀ c, p c = true → begT c = true) : ∀ (f g : Nat) (b : Bool) (c : K) (acc : List N), rest c < f → em c < g → AlL [] (rowF qde (qfw p) f b c acc).2 (qfb p g c acc)
 | 0, _, _, _, _, h, _ => absurd h (by omega)
 | _, 0, _, _, _, _, h => absurd h (by omega)
 | f + 1, g + 1, b, c, acc, hf, hg => by
   rw [rowF, qfb]
   cases ha : p c with
   | false =>
     rw [if_neg (show ¬ (qfw p b c).2.2 = true by show ¬ p c = true; rw [ha]; exact noBd), if_neg noBd]
     exact ⟨rfl, fun _ => by rw [List.nil_append], fun h => by cases h⟩
   | true =>
     rw [if_pos (show (qfw p b c).2.2 = true from ha), if_pos rfl]
     have hal := qbmw (qsi c)
     have h5 := qhk (hp c ha)
     cases ho : (qde c).2.2 with
     | true =>
       rw [if_pos (show (qde (qfw p b c).2.1).2.2 = true from ho)]
       have h1 := goes_atom.l c ho
       have e1 : (qde c).1 = (qb7 c).1 := hal.1
       have e2 : (qde c).2.1 = (qb7 c).2 := hal.2.1 ho
       show AlL [] (rowF qde (qfw p) f b (qde c).1 (acc ++ [(qde c).2.1])).2 _
       rw [← e1, ← e2]
       rw [← e1] at h5
       exact q3s hp f g b _ _ (by omega) (by omega)
     | false =>
       rw [if_neg (show ¬ (qde (qfw p b c).2.1).2.2 = true by show ¬ (qde c).2.2 = true; rw [ho]; exact noBd)]
       have h3 : (qde c).1.err ≠ 0 := hal.2.2 ho
       have e1 : (qde c).1 = (qb7 c).1 := hal.1
       rw [qjm hp (by rw [← e1]; exact h3)]
       exact ⟨e1, (fun h => by cases h), fun _ => h3⟩
theorem qyq {p : K → Bool} (hp : ∀ c, p c = true → begT c = true) (c : K) : AlL [] (rowS qde (qfw p) false c []).2 (qfb p (em c + 1) c []) := q3s hp _ _ _ _ _ (Nat.lt_succ_self _) (Nat.lt_succ_self _)
theorem qbwl (c : K) : AlR (conK c) (qf8 c) := by
 unfold conK qf8 qvd
 have h := qyq (p := begT) (fun _ h => h) (qn c 2).1
 cases hk : (qn c 2).2 with
 | true =>
   rw [if_pos rfl]
   refine ⟨h.1, fun q => ?_, h.2.2⟩
   have := h.2.1 q
   rw [List.nil_append] at this
   simp only; rw [this]
 | false =>
   rw [if_neg noBd]
   have h3 := qnc hk
   rw [qjm (fun _ h => h) h3]
   exact ⟨rfl, (fun q => by cases q), fun _ => h3⟩
theorem q9z {one : K → R3} {x : List UInt8} (f : Nat) (c : K) (acc : List N) : rowF one (qb5 x) (f + 1) true c acc = if (qf c x).2 = true then rowF one (qb5 x) (f + 1) false (qf c x).1 acc else (true, (qf c x).1, acc, true) := by
 rw [rowF, rowF]
 have h1 : qb5 x true c = (true, (qf c x).1, (qf c x).2) := if_pos rfl
 have h2 : qb5 x false (qf c x).1 = (true, (qf c x).1, true) := rfl
 rw [h1, h2]
 cases (qf c x).2 with
 | true => rfl
 | false => rfl
theorem all_cons : ∀ (f g : Nat) (c : K) (acc : List N), rest c < f → em c < g → AlL [] (rowF conK (qb5 [124]) f false c acc).2 (qhg g c acc)
 | 0, _, _, _, h, _ => absurd h (by omega)
 | _, 0, _, _, _, h => absurd h (by omega)
 | f + 1, g + 1, c, acc, hf, hg => by
   rw [rowF, qhg]
   rw [if_pos (show (qb5 [124] false c).2.2 = true from rfl)]
   show AlL [] (if (conK c).2.2 = true then rowF conK (qb5 [124]) f true (conK c).1 (acc ++ [(conK c).2.1]) else (true, (conK c).1, acc, false)).2 _
   have hal := qbwl c
   cases ho : (conK c).2.2 with
   | false =>
     rw [if_neg noBd]
     have h3 := hal.2.2 ho
     have e1 := hal.1
     rw [← e1, qe2 h3, if_neg noBd]
     exact ⟨rfl, (fun q => by cases q), fun _ => h3⟩
   | true =>
     rw [if_pos rfl]
     have e1 := hal.1
     have e2 := hal.2.1 ho
     have h1 := goes_con.l c ho
     have h2 := (goes_con.m c).em
     rw [← e1, ← e2]
     obtain ⟨f, rfl⟩ : ∃ k, f = k + 1 := ⟨f - 1, by omega⟩
     rw [q9z]
     cases ht : (qf (conK c).1 [124]).2 with
     | true =>
       rw [if_pos rfl, if_pos rfl]
       have h4 := qc1 ht
       have h5 := qdx ht
       exact all_cons (f + 1) g _ _ (by omega) (by omega)
     | false =>
       rw [if_neg noBd, if_neg noBd]
       exact ⟨rfl, fun _ => by rw [List.nil_append], fun q => by cases q⟩
theorem qra {c : K} (h : c.err ≠ 0) : ∀ (g : Nat) (acc : List N), (qhg g c acc).1 = c
 | 0, _ => rfl
 | g + 1, acc => by
   have h1 : (qf8 c).1 = c := by
    unfold qf8 qvd
    rw [qky h, qjm (fun _ h => h) h]
   rw [qhg, h1, qe2 h, if_neg noBd]
theorem qbl1 (p : Int) (c : K) : AlR (qmw p c) (qjo p c) := by
 unfold qmw qjo q4a qv6 q1i qwg
 have h := qyq (p := qd8) (fun _ h => qnr h) (qn c 2).1
 cases hk : (qn c 2).2 with
 | false =>
   rw [if_neg noBd]
   have h3 := qnc hk
   rw [qjm (fun _ h => qnr h) h3, qbu h3]
   exact ⟨(qra h3 _ _).symm, (fun q => by cases q), fun _ => h3⟩
 | true =>
   rw [if_pos rfl]
   have e1 := h.1
   have hv : (rowS qde (qfw qd8) false (qn c 2).1 []).2.2.2 = true := qwx _ _ _ _ (Nat.lt_succ_self _)
   have e2 := h.2.1 hv
   rw [List.nil_append] at e2
   rw [← e1, ← e2]
   generalize rowS qde (qfw qd8) false (qn c 2).1 [] = r at *
   cases hw : (qi r.2.1 [61]).2 with
   | false =>
     rw [if_neg noBd]
     have h3 := qdp hw
     exact ⟨(qra h3 _ _).symm, (fun q => by cases q), fun _ => h3⟩
   | true =>
     rw [if_pos rfl]
     have hc := all_cons (rest (qi r.2.1 [61]).1 + 1) (em (qi r.2.1 [61]).1 + 2) (qi r.2.1 [61]).1 r.2.2.1 (Nat.lt_succ_self _) (by omega)
     refine ⟨hc.1, fun q => ?_, hc.2.2⟩
     have := hc.2.1 q
     rw [List.nil_append] at this
     exact congrArg (qrv p (qev c 2) r.2.2.1) this
theorem q5g (kd : Int) {c : K} (hn : NoEnd c) : AlR (qbn kd c) (qek kd c) := by
 have h := qqt hn
 unfold qbn qek
 cases ho : (qh4 c).2 with
 | none =>
   have h3 : (qh4 c).1.err ≠ 0 := h.2.2 ho
   rw [if_neg (by simp)]
   refine ⟨?_, (fun q => by simp only [ofO, ho] at q; cases q), fun _ => h3⟩
   rw [← h.1, if_neg (fun q => h3 q.1)]; rfl
 | some n =>
   have e2 : n = (qfl c).2 := h.2.1 n ho
   rw [Option.isSome_some, Option.getD_some, ← e2, ← h.1]
   by_cases hk : n.kind = kd
   ·rw [if_neg (fun q => q.2 hk), if_neg (fun q => q.2 hk)]
    exact ⟨rfl, fun _ => by simp only [ofO, ho]; rfl, fun q => by simp only [ofO, ho] at q; cases q⟩
   ·rw [if_pos ⟨rfl, hk⟩]
    by_cases he : (qh4 c).1.err = 0
    ·rw [if_pos ⟨he, hk⟩]
     exact ⟨rfl, (fun q => by cases q), fun _ => qg1 _⟩
    ·rw [if_neg (fun q => he q.1), qfd he]
     exact ⟨rfl, (fun q => by cases q), fun _ => he⟩
def memS (kd : Int) (f : Nat) (c : K) (acc : List N) : Bool × RL := if (qbn kd c).2.2 = true then rowF (qbn kd) qgq f true (qbn kd c).1 (acc ++ [(qbn kd c).2.1]) else (true, (qbn kd c).1, acc, false)
theorem q6d (c : K) : qgq true c = (true, (qb1 c).1, (qb1 c).2) := by
 unfold qgq qb1
 cases hi : isK c [125] with
 | true =>
   have ht : isK c [59] = false := by
    unfold isK qka at hi ⊢
    simp only [Bool.and_eq_true, decide_eq_true_eq] at hi
    rw [hi.2.2]
    simp
   rw [if_pos rfl, qsa ht]; rfl
 | false => rw [if_neg noBd]; rfl
theorem qbj0 (kd : Int) (f : Nat) (c : K) (acc : List N) : rowF (qbn kd) qgq (f + 1) true c acc = if (qb1 c).2 = true then memS kd f (qb1 c).1 acc else (true, (qb1 c).1, acc, true) := by
 rw [rowF, q6d]; rfl
theorem qbg2 {c : K} (h : c.err ≠ 0) : qb1 c = (c, false) := by unfold qb1; rw [qe2 h]; rfl
theorem q28 (kd : Int) (out : List N) : ∀ (f g : Nat) (c : K) (acc : List N), rest c ≤ f → em c < g → NoEnd c → AlL out (memS kd f c (out ++ acc)).2 (qgc kd g c acc)
 | _, 0, _, _, _, h, _ => absurd h (by omega)
 | f, g + 1, c, acc, hf, hg, hn => by
   have hal := q5g kd hn
   rw [qgc, memS]
   cases ho : (qbn kd c).2.2 with
   | false =>
     rw [if_neg noBd]
     have h3 := hal.2.2 ho
     rw [← hal.1, qbg2 h3, if_neg noBd]
     exact ⟨rfl, (fun q => by cases q), fun _ => h3⟩
   | true =>
     rw [if_pos rfl, ← hal.1, ← hal.2.1 ho]
     have h1 := (qeb kd).l c ho
     have h2 := ((qeb kd).m c).em
     obtain ⟨f, rfl⟩ : ∃ k, f = k + 1 := ⟨f - 1, by omega⟩
     rw [qbj0]
     cases hm : (qb1 (qbn kd c).1).2 with
     | false =>
       rw [if_neg noBd, if_neg noBd]
       exact ⟨rfl, fun _ => by rw [List.append_assoc], fun q => by cases q⟩
     | true =>
       rw [if_pos rfl, if_pos rfl, List.append_assoc]
       have h4 := (qfo (qbn kd c).1).2.1
       have h5 := qjk hm
       exact q28 kd out f g _ _ (by omega) (by omega) (hn.mon (((qeb kd).m c).trans (qfo _)))
theorem qbdz (kd : Int) (c : K) (out : List N) (hn : NoEnd c) : AlL out (qds kd c out) (qe3 kd c) := by
 unfold qds qe3 qnm qjn
 cases h1 : (qi c [119, 104, 101, 114, 101]).2 with
 | false =>
   have h3 := qdp h1
   rw [if_neg noBd, qbu h3, if_neg (by rw [decide_eq_false h3]; exact noBd), qbu h3]
   exact ⟨rfl, (fun q => by cases q), fun _ => h3⟩
 | true =>
   rw [if_pos rfl]
   cases h2 : (qi (qi c [119, 104, 101, 114, 101]).1 [123]).2 with
   | false =>
     have h3 := qdp h2
     rw [if_neg noBd, if_neg (by rw [decide_eq_false h3]; exact noBd), qbu h3]
     exact ⟨rfl, (fun q => by cases q), fun _ => h3⟩
   | true =>
     rw [if_pos rfl]
     have hnd := hn.mon ((qd c [119, 104, 101, 114, 101]).trans (qd _ [123]))
     generalize (qi (qi c [119, 104, 101, 114, 101]).1 [123]).1 = d at *
     have hE : ∀ (r : RL) (r' : K × List N), AlL out r r' → AlL out (qn7 r) ((qi r'.1 [125]).1, r'.2) := fun r r' h => by
      unfold qn7
      cases hr : r.2.2 with
      | true =>
        rw [if_pos rfl, ← h.1]
        refine ⟨rfl, fun _ => h.2.1 hr, fun q => qdp q⟩
      | false =>
        rw [if_neg noBd]
        have h3 := h.2.2 hr
        rw [← h.1, qbu h3]
        exact ⟨rfl, fun q => (by rw [hr] at q; cases q), fun _ => h3⟩
     refine hE _ _ ?_
     unfold rowS
     rw [rowF]
     cases hi : isK d [125] with
     | true =>
       have hm : qgq false d = (false, d, false) := by unfold qgq; rw [if_pos hi]
       rw [hm, if_neg noBd, Bool.not_true, Bool.and_false, if_neg noBd]
       exact ⟨rfl, fun _ => by rw [List.append_nil], fun q => by cases q⟩
     | false =>
       have hm : qgq false d = (true, d, true) := by
        unfold qgq qb5
        simp [hi]
       rw [hm, if_pos rfl]
       by_cases he : d.err = 0
       ·rw [decide_eq_true he, Bool.not_false, Bool.and_true, if_pos rfl]
        have := q28 kd out (rest d) (em d + 2) d [] (Nat.le_refl _) (by omega) hnd
        rw [List.append_nil] at this
        exact this
       ·rw [decide_eq_false he, Bool.false_and, if_neg noBd]
        have hk : (qbn kd d).2.2 = false ∧ (qbn kd d).1 = d := by
         have hb : qh4 d = (d, none) := by unfold qh4; rw [qb8, qky he, if_neg noBd]
         unfold qbn
         rw [hb, if_neg (by simp)]
         exact ⟨rfl, rfl⟩
        rw [hk.1, if_neg noBd]
        exact ⟨hk.2, (fun q => by cases q), fun _ => by show (qbn kd d).1.err ≠ 0; rw [hk.2]; exact he⟩
theorem qip {kd : Int} {c : K} (h : c.err ≠ 0) : (qe3 kd c).1 = c := by
 unfold qe3 qnm qjn
 rw [qbu h]
 simp only
 rw [qbu h]
 simp only
 rw [if_neg (by rw [decide_eq_false h]; exact noBd), qbu h]
theorem qo2 {k : Int} {c : K} (h : c.err ≠ 0) : (qeu k c).1 = c := by
 unfold qeu
 split
 ·rw [qky h]
 ·exact qyb h
theorem q70 {c : K} {k : Int} (h : (qq c).kind ≠ k) : (qn c k).1 = qdh c 5 := by
 unfold qn
 split
 ·rename_i q
  simp only [Bool.and_eq_true, decide_eq_true_eq] at q
  exact absurd q.2 h
 ·rfl
theorem q3q (k p : Int) {c : K} (hn : NoEnd c) : AlR (ql2 k p c) (qir k p c) := by
 have hP := qy4 hn
 unfold ql2 qir qwv qv4
 cases h1 : (qd3 c).2 with
 | none =>
   have h3 : (qd3 c).1.err ≠ 0 := hP.2.2 h1
   rw [Option.isSome_none, if_neg noBd, ← hP.1, qky h3]
   refine ⟨?_, (fun q => by cases q), fun _ => h3⟩
   simp only
   rw [qo2 h3, qip h3]
 | some v =>
   have e2 : v = (qfc c).2 := hP.2.1 v h1
   have hnp := hn.mon (qgp c)
   rw [Option.isSome_some, if_pos rfl, Option.getD_some, ← e2, ← hP.1]
   unfold q55
   cases h2 : (qn (qd3 c).1 2).2 with
   | false =>
     have h3 := qnc h2
     rw [if_neg noBd]
     refine ⟨?_, (fun q => by cases q), fun _ => h3⟩
     simp only
     rw [qo2 h3, qip h3]
   | true =>
     rw [if_pos rfl]
     have hnk := hnp.mon (qbf (qd3 c).1 2)
     generalize (qn (qd3 c).1 2).1 = d at *
     unfold q0e
     by_cases h3 : k = 35 ∧ (qq d).kind ≠ 1
     ·rw [if_pos h3]
      have e3 : (qeu k d).1 = qdh d 5 := by unfold qeu; rw [if_pos h3.1]; exact q70 h3.2
      refine ⟨?_, (fun q => by cases q), fun _ => qg1 d⟩
      simp only
      rw [e3, qip (qg1 d)]
     ·rw [if_neg h3]
      have hA : qd6 (qgh d) (qeu k d) := by
       by_cases h5 : k = 35
       ·have hk : (qq d).kind = 1 := by
         by_cases hq : (qq d).kind = 1
         ·exact hq
         ·exact absurd ⟨h5, hq⟩ h3
        have he : d.err = 0 := (qe5 (by rw [hk]; decide)).1
        have ha : qgh d = (qu d, some (qie d 1 [])) := by unfold qgh; rw [qbz, if_pos hk]
        have hb : qeu k d = (qu d, qie d 1 []) := by
         unfold qeu
         rw [if_pos h5, qqz he hk, qu2 he hk]; rfl
        rw [ha, hb]
        exact ⟨rfl, fun n h => by cases h; rfl, fun h => by cases h⟩
       ·have : qeu k d = qb7 d := by unfold qeu; rw [if_neg h5]
        rw [this]; exact qsi d
      unfold q4o
      have hna := hnk.mon (qhz d)
      cases ha : (qgh d).2 with
      | none =>
        have h4 : (qgh d).1.err ≠ 0 := hA.2.2 ha
        rw [Option.isSome_none, if_neg noBd]
        refine ⟨?_, (fun q => by cases q), fun _ => h4⟩
        simp only
        rw [← hA.1, qip h4]
      | some a =>
        have e4 : a = (qeu k d).2 := hA.2.1 a ha
        rw [Option.isSome_some, if_pos rfl, Option.getD_some, ← hA.1, ← e4]
        have hB := qbdz (if k = 35 then 32 else 31) (qgh d).1 (v ++ [a]) hna
        refine ⟨hB.1, fun q => ?_, hB.2.2⟩
        exact congrArg (qk8 k p (qev (qd3 c).1 2) v) (hB.2.1 q)
theorem qwp {c : K} (hn : NoEnd c) : AlR (qdm c) (qet c) := by
 unfold qdm qet
 split
 ·exact qbl1 _ _
 ·split
  ·exact q3q _ _ (hn.mon (qk _ _))
  ·split
   ·exact q3q _ _ (hn.mon (qk _ _))
   ·exact qbmw (qqt hn)
end Go.Proofs.YtfjbmjplnmaclaaGreat
