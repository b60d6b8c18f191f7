/- Texts of this proof, joined. -/
import Derived.Test.YtfjbmjplnmaclaaObq
import Derived.Test.YtfjbmjplnmaclaaObn

/- declarations: the reference: what is read (plain) -/
namespace Go.Proofs.Ytfjbmjplnmaclaa
open Go Go.RowKit Go.V
set_option linter.unusedVariables false
set_option linter.unusedSimpArgs false
set_option linter.unusedSectionVars false

def qe4 (c : K) : K × N := qd6 (qee (rest c + 2)) c
def qhb (c : K) : K × N := qgc (qk3 (rest c + 2)) c
def qjg (c : K) : K × List N := qgz (qee (rest c + 2)) c
def qir (p : K → Bool) : Nat → K → List N → K × List N
  | 0, c, acc => (c, acc)
  | f + 1, c, acc => if p c = true then qir p f (qe4 c).1 (acc ++ [(qe4 c).2]) else (c, acc)
def qwv (t : T) (r : K × List N) : K × N := (r.1, conN t r.2)
def qh9 (c : K) : K × N := qwv (qef c 2) (qir begT (em (kindK c 2).1 + 1) (kindK c 2).1 [])
def ql4 : Nat → K → List N → K × List N
  | 0, c, acc => (c, acc)
  | f + 1, c, acc => if (qs (qh9 c).1 [124]).2 = true then ql4 f (qs (qh9 c).1 [124]).1 (acc ++ [(qh9 c).2]) else ((qs (qh9 c).1 [124]).1, acc ++ [(qh9 c).2])
def q0d (p : Int) (t : T) (v : List N) (r : K × List N) : K × N := (r.1, qvm p t v r.2)
def qz6 (p : Int) (t : T) (v : K × List N) : K × N := q0d p t v.2 (ql4 (em (qq v.1 [61]).1 + 2) (qq v.1 [61]).1 v.2)
def qti (p : Int) (c : K) : K × N := qz6 p (qef c 2) (qir qfa (em (kindK c 2).1 + 1) (kindK c 2).1 [])
def qgj (kd : Int) (c : K) : K × N := (if (qhb c).1.err = 0 ∧ (qhb c).2.kind ≠ kd then qd3 (qhb c).1 5 else (qhb c).1, (qhb c).2)
def qs2 (kd : Int) : Nat → K → List N → K × List N
  | 0, c, acc => (c, acc)
  | f + 1, c, acc => if (qgl (qgj kd c).1).2 = true then qs2 kd f (qgl (qgj kd c).1).1 (acc ++ [(qgj kd c).2]) else ((qgl (qgj kd c).1).1, acc ++ [(qgj kd c).2])
def qth (r : K × List N) : K × List N := ((qq r.1 [125]).1, r.2)
def qts (kd : Int) (c : K) : K × List N := if (decide (c.err = 0) && !isK c [125]) = true then qs2 kd (em c + 2) c [] else (c, [])
def qlw (kd : Int) (c : K) : K × List N := qth (qts kd (qq (qq c [119, 104, 101, 114, 101]).1 [123]).1)
def qe1 (k : Int) (c : K) : K × N := if k = 35 then ((kindK c 1).1, .mk 1 (qef c 1).pos 0 (qef c 1).text []) else qe4 c
def qy9 (k p : Int) (t : T) (v : List N) (n : N) (b : K × List N) : K × N := (b.1, qlo k p t v (v ++ [n] ++ b.2))
def q0i (k p : Int) (t : T) (v : List N) (a : K × N) : K × N := qy9 k p t v a.2 (qlw (if k = 35 then 32 else 31) a.1)
def qn6 (k p : Int) (c : K) : K × N := q0i k p (qef (qjg c).1 2) (qjg c).2 (qe1 k (kindK (qjg c).1 2).1)
def qz9 (c : K) : K × N :=
  if (qs c qne).2 = true then qti (qw c).pos (qs c qne).1
  else if (qs c qil).2 = true then qn6 35 (qw c).pos (qs c qil).1
  else if (qs c qnk).2 = true then qn6 36 (qw c).pos (qs c qnk).1
  else qhb c
theorem qtk {c : K} (h : begT c = true) : em (qe4 c).1 < em c := qk0 (qd0 _) h
theorem qv2 {c : K} (h : qfa c = true) : begT c = true := by
  simp only [qfa, decide_eq_true_eq] at h
  simp [begT, h]

theorem noBd : ¬ (false = true) := by decide
theorem qpp (c : K) : qdr (qfz c) (qe4 c) := qib (fun c h => by rw [qhp _ h]) (qi7 (rest c + 2)) (by have := qwm c; omega)
theorem qvb {c : K} (hn : NoEnd c) : qdr (qcz c) (qjg c) := qo8 (fun c h => by rw [qhp _ h]) (qi7 (rest c + 2)) (qcn _) (qd0 _) hn (by have := qwm c; omega)
theorem qqg {c : K} (hn : NoEnd c) : qdr (qe3 c) (qhb c) := qon (fun c h => qra _ h) (qt5 (rest c + 2)) hn (by have := qwm c; omega)
theorem qv7 {c : K} (h : c.err ≠ 0) : (qe4 c).1 = c := by unfold qe4 qd6; rw [if_neg h]
theorem qii {p : K → Bool} (hp : ∀ c, p c = true → begT c = true) {c : K} (h : c.err ≠ 0) (g : Nat) (acc : List N) : qir p g c acc = (c, acc) := by
  cases g with
  | zero => rfl
  | succ g =>
    rw [qir, if_neg]
    intro q
    have := hp c q
    rw [q3h h] at this; cases this
/-- Lists read alike, something ahead. -/
def AlL (out : List N) (p : RL) (r : K × List N) : Prop := p.1 = r.1 ∧ (p.2.2 = true → p.2.1 = out ++ r.2) ∧ (p.2.2 = false → p.1.err ≠ 0)
def AlR (p : R3) (r : K × N) : Prop := p.1 = r.1 ∧ (p.2.2 = true → p.2.1 = r.2) ∧ (p.2.2 = false → p.1.err ≠ 0)
theorem qbcz {p : K × Option N} {r : K × N} (h : qdr p r) : AlR (ofO p) r := by
  refine ⟨h.1, fun q => ?_, fun q => ?_⟩
  · exact qhd h q
  · exact qhe h (by intro e; have : (ofO p).2.2 = true := e; rw [this] at q; cases q)
theorem qyt {p : K → Bool} (hp : ∀ c, p c = true → begT c = true) : ∀ (f g : Nat) (b : Bool) (c : K) (acc : List N), rest c < f → em c < g → AlL [] (rowF qdq (qf4 p) f b c acc).2 (qir p g c acc)
  | 0, _, _, _, _, h, _ => absurd h (by omega)
  | _, 0, _, _, _, _, h => absurd h (by omega)
  | f + 1, g + 1, b, c, acc, hf, hg => by
    rw [rowF, qir]
    cases ha : p c with
    | false =>
      rw [if_neg (show ¬ (qf4 p b c).2.2 = true by show ¬ p c = true; rw [ha]; exact noBd), if_neg noBd]
      exact ⟨rfl, fun _ => by rw [List.nil_append], fun h => by cases h⟩
    | true =>
      rw [if_pos (show (qf4 p b c).2.2 = true from ha), if_pos rfl]
      have hal := qbcz (qpp c)
      have h5 := qtk (hp c ha)
      cases ho : (qdq c).2.2 with
      | true =>
        rw [if_pos (show (qdq (qf4 p b c).2.1).2.2 = true from ho)]
        have h1 := goes_atom.l c ho
        have e1 : (qdq c).1 = (qe4 c).1 := hal.1
        have e2 : (qdq c).2.1 = (qe4 c).2 := hal.2.1 ho
        show AlL [] (rowF qdq (qf4 p) f b (qdq c).1 (acc ++ [(qdq c).2.1])).2 _
        rw [← e1, ← e2]
        rw [← e1] at h5
        exact qyt hp f g b _ _ (by omega) (by omega)
      | false =>
        rw [if_neg (show ¬ (qdq (qf4 p b c).2.1).2.2 = true by show ¬ (qdq c).2.2 = true; rw [ho]; exact noBd)]
        have h3 : (qdq c).1.err ≠ 0 := hal.2.2 ho
        have e1 : (qdq c).1 = (qe4 c).1 := hal.1
        rw [qii hp (by rw [← e1]; exact h3)]
        exact ⟨e1, (fun h => by cases h), fun _ => h3⟩
theorem qvt {p : K → Bool} (hp : ∀ c, p c = true → begT c = true) (c : K) : AlL [] (rowS qdq (qf4 p) false c []).2 (qir p (em c + 1) c []) := qyt hp _ _ _ _ _ (Nat.lt_succ_self _) (Nat.lt_succ_self _)
theorem qbqu (c : K) : AlR (conK c) (qh9 c) := by
  unfold conK qh9 qwv
  have h := qvt (p := begT) (fun _ h => h) (kindK c 2).1
  cases hk : (kindK c 2).2 with
  | true =>
    rw [if_pos rfl]
    refine ⟨h.1, fun q => ?_, h.2.2⟩
    have := h.2.1 q
    rw [List.nil_append] at this
    simp only; rw [this]
  | false =>
    rw [if_neg noBd]
    have h3 := qlk hk
    rw [qii (fun _ h => h) h3]
    exact ⟨rfl, (fun q => by cases q), fun _ => h3⟩
theorem q6b {one : K → R3} {x : List UInt8} (f : Nat) (c : K) (acc : List N) : rowF one (qbs x) (f + 1) true c acc = if (qs c x).2 = true then rowF one (qbs x) (f + 1) false (qs c x).1 acc else (true, (qs c x).1, acc, true) := by
  rw [rowF, rowF]
  have h1 : qbs x true c = (true, (qs c x).1, (qs c x).2) := if_pos rfl
  have h2 : qbs x false (qs c x).1 = (true, (qs c x).1, true) := rfl
  rw [h1, h2]
  cases (qs c x).2 with
  | true => rfl
  | false => rfl
theorem all_cons : ∀ (f g : Nat) (c : K) (acc : List N), rest c < f → em c < g → AlL [] (rowF conK (qbs [124]) f false c acc).2 (ql4 g c acc)
  | 0, _, _, _, h, _ => absurd h (by omega)
  | _, 0, _, _, _, h => absurd h (by omega)
  | f + 1, g + 1, c, acc, hf, hg => by
    rw [rowF, ql4]
    rw [if_pos (show (qbs [124] false c).2.2 = true from rfl)]
    show AlL [] (if (conK c).2.2 = true then rowF conK (qbs [124]) f true (conK c).1 (acc ++ [(conK c).2.1]) else (true, (conK c).1, acc, false)).2 _
    have hal := qbqu c
    cases ho : (conK c).2.2 with
    | false =>
      rw [if_neg noBd]
      have h3 := hal.2.2 ho
      have e1 := hal.1
      rw [← e1, qek h3, if_neg noBd]
      exact ⟨rfl, (fun q => by cases q), fun _ => h3⟩
    | true =>
      rw [if_pos rfl]
      have e1 := hal.1
      have e2 := hal.2.1 ho
      have h1 := goes_con.l c ho
      have h2 := (goes_con.m c).em
      rw [← e1, ← e2]
      obtain ⟨f, rfl⟩ : ∃ k, f = k + 1 := ⟨f - 1, by omega⟩
      rw [q6b]
      cases ht : (qs (conK c).1 [124]).2 with
      | true =>
        rw [if_pos rfl, if_pos rfl]
        have h4 := qcs ht
        have h5 := qh7 ht
        exact all_cons (f + 1) g _ _ (by omega) (by omega)
      | false =>
        rw [if_neg noBd, if_neg noBd]
        exact ⟨rfl, fun _ => by rw [List.nil_append], fun q => by cases q⟩
theorem qol {c : K} (h : c.err ≠ 0) : ∀ (g : Nat) (acc : List N), (ql4 g c acc).1 = c
  | 0, _ => rfl
  | g + 1, acc => by
    have h1 : (qh9 c).1 = c := by
      unfold qh9 qwv
      rw [qi6 h, qii (fun _ h => h) h]
    rw [ql4, h1, qek h, if_neg noBd]
theorem qbb1 (p : Int) (c : K) : AlR (qkl p c) (qti p c) := by
  unfold qkl qti qwx qz6 qvo q0d
  have h := qvt (p := qfa) (fun _ h => qv2 h) (kindK c 2).1
  cases hk : (kindK c 2).2 with
  | false =>
    rw [if_neg noBd]
    have h3 := qlk hk
    rw [qii (fun _ h => qv2 h) h3, qbv h3]
    exact ⟨(qol h3 _ _).symm, (fun q => by cases q), fun _ => h3⟩
  | true =>
    rw [if_pos rfl]
    have e1 := h.1
    have hv : (rowS qdq (qf4 qfa) false (kindK c 2).1 []).2.2.2 = true := qtf _ _ _ _ (Nat.lt_succ_self _)
    have e2 := h.2.1 hv
    rw [List.nil_append] at e2
    rw [← e1, ← e2]
    generalize rowS qdq (qf4 qfa) false (kindK c 2).1 [] = r at *
    cases hw : (qq r.2.1 [61]).2 with
    | false =>
      rw [if_neg noBd]
      have h3 := qdd hw
      exact ⟨(qol h3 _ _).symm, (fun q => by cases q), fun _ => h3⟩
    | true =>
      rw [if_pos rfl]
      have hc := all_cons (rest (qq r.2.1 [61]).1 + 1) (em (qq r.2.1 [61]).1 + 2) (qq r.2.1 [61]).1 r.2.2.1 (Nat.lt_succ_self _) (by omega)
      refine ⟨hc.1, fun q => ?_, hc.2.2⟩
      have := hc.2.1 q
      rw [List.nil_append] at this
      exact congrArg (qvm p (qef c 2) r.2.2.1) this
theorem q02 (kd : Int) {c : K} (hn : NoEnd c) : AlR (qbf kd c) (qgj kd c) := by
  have h := qqg hn
  unfold qbf qgj
  cases ho : (qe3 c).2 with
  | none =>
    have h3 : (qe3 c).1.err ≠ 0 := h.2.2 ho
    rw [if_neg (by simp)]
    refine ⟨?_, (fun q => by simp only [ofO, ho] at q; cases q), fun _ => h3⟩
    rw [← h.1, if_neg (fun q => h3 q.1)]; rfl
  | some n =>
    have e2 : n = (qhb c).2 := h.2.1 n ho
    rw [Option.isSome_some, Option.getD_some, ← e2, ← h.1]
    by_cases hk : n.kind = kd
    · rw [if_neg (fun q => q.2 hk), if_neg (fun q => q.2 hk)]
      exact ⟨rfl, fun _ => by simp only [ofO, ho]; rfl, fun q => by simp only [ofO, ho] at q; cases q⟩
    · rw [if_pos ⟨rfl, hk⟩]
      by_cases he : (qe3 c).1.err = 0
      · rw [if_pos ⟨he, hk⟩]
        exact ⟨rfl, (fun q => by cases q), fun _ => qfn _⟩
      · rw [if_neg (fun q => he q.1), qe7 he]
        exact ⟨rfl, (fun q => by cases q), fun _ => he⟩
/-- A member, and those behind it. -/
def memS (kd : Int) (f : Nat) (c : K) (acc : List N) : Bool × RL := if (qbf kd c).2.2 = true then rowF (qbf kd) qdf f true (qbf kd c).1 (acc ++ [(qbf kd c).2.1]) else (true, (qbf kd c).1, acc, false)
theorem q01 (c : K) : qdf true c = (true, (qgl c).1, (qgl c).2) := by
  unfold qdf qgl
  cases hi : isK c [125] with
  | true =>
    have ht : isK c [59] = false := by
      unfold isK qf0 at hi ⊢
      simp only [Bool.and_eq_true, decide_eq_true_eq] at hi
      rw [hi.2.2]
      simp
    rw [if_pos rfl, qf1 ht]; rfl
  | false => rw [if_neg noBd]; rfl
theorem qbcf (kd : Int) (f : Nat) (c : K) (acc : List N) : rowF (qbf kd) qdf (f + 1) true c acc = if (qgl c).2 = true then memS kd f (qgl c).1 acc else (true, (qgl c).1, acc, true) := by
  rw [rowF, q01]; rfl
theorem q8f {c : K} (h : c.err ≠ 0) : qgl c = (c, false) := by unfold qgl; rw [qek h]; rfl
theorem qzj (kd : Int) (out : List N) : ∀ (f g : Nat) (c : K) (acc : List N), rest c ≤ f → em c < g → NoEnd c → AlL out (memS kd f c (out ++ acc)).2 (qs2 kd g c acc)
  | _, 0, _, _, _, h, _ => absurd h (by omega)
  | f, g + 1, c, acc, hf, hg, hn => by
    have hal := q02 kd hn
    rw [qs2, memS]
    cases ho : (qbf kd c).2.2 with
    | false =>
      rw [if_neg noBd]
      have h3 := hal.2.2 ho
      rw [← hal.1, q8f h3, if_neg noBd]
      exact ⟨rfl, (fun q => by cases q), fun _ => h3⟩
    | true =>
      rw [if_pos rfl, ← hal.1, ← hal.2.1 ho]
      have h1 := (qeg kd).l c ho
      have h2 := ((qeg kd).m c).em
      obtain ⟨f, rfl⟩ : ∃ k, f = k + 1 := ⟨f - 1, by omega⟩
      rw [qbcf]
      cases hm : (qgl (qbf kd c).1).2 with
      | false =>
        rw [if_neg noBd, if_neg noBd]
        exact ⟨rfl, fun _ => by rw [List.append_assoc], fun q => by cases q⟩
      | true =>
        rw [if_pos rfl, if_pos rfl, List.append_assoc]
        have h4 := (qnz (qbf kd c).1).2.1
        have h5 := q6q hm
        exact qzj kd out f g _ _ (by omega) (by omega) (hn.mon (((qeg kd).m c).trans (qnz _)))
theorem q99 (kd : Int) (c : K) (out : List N) (hn : NoEnd c) : AlL out (qc9 kd c out) (qlw kd c) := by
  unfold qc9 qlw qth qts
  cases h1 : (qq c [119, 104, 101, 114, 101]).2 with
  | false =>
    have h3 := qdd h1
    rw [if_neg noBd, qbv h3, if_neg (by rw [decide_eq_false h3]; exact noBd), qbv h3]
    exact ⟨rfl, (fun q => by cases q), fun _ => h3⟩
  | true =>
    rw [if_pos rfl]
    cases h2 : (qq (qq c [119, 104, 101, 114, 101]).1 [123]).2 with
    | false =>
      have h3 := qdd h2
      rw [if_neg noBd, if_neg (by rw [decide_eq_false h3]; exact noBd), qbv h3]
      exact ⟨rfl, (fun q => by cases q), fun _ => h3⟩
    | true =>
      rw [if_pos rfl]
      have hnd := hn.mon ((qr c [119, 104, 101, 114, 101]).trans (qr _ [123]))
      generalize (qq (qq c [119, 104, 101, 114, 101]).1 [123]).1 = d at *
      have hE : ∀ (r : RL) (r' : K × List N), AlL out r r' → AlL out (ql5 r) ((qq r'.1 [125]).1, r'.2) := fun r r' h => by
        unfold ql5
        cases hr : r.2.2 with
        | true =>
          rw [if_pos rfl, ← h.1]
          refine ⟨rfl, fun _ => h.2.1 hr, fun q => qdd q⟩
        | false =>
          rw [if_neg noBd]
          have h3 := h.2.2 hr
          rw [← h.1, qbv h3]
          exact ⟨rfl, fun q => (by rw [hr] at q; cases q), fun _ => h3⟩
      refine hE _ _ ?_
      unfold rowS
      rw [rowF]
      cases hi : isK d [125] with
      | true =>
        have hm : qdf false d = (false, d, false) := by unfold qdf; rw [if_pos hi]
        rw [hm, if_neg noBd, Bool.not_true, Bool.and_false, if_neg noBd]
        exact ⟨rfl, fun _ => by rw [List.append_nil], fun q => by cases q⟩
      | false =>
        have hm : qdf false d = (true, d, true) := by
          unfold qdf qbs
          simp [hi]
        rw [hm, if_pos rfl]
        by_cases he : d.err = 0
        · rw [decide_eq_true he, Bool.not_false, Bool.and_true, if_pos rfl]
          have := qzj kd out (rest d) (em d + 2) d [] (Nat.le_refl _) (by omega) hnd
          rw [List.append_nil] at this
          exact this
        · rw [decide_eq_false he, Bool.false_and, if_neg noBd]
          have hk : (qbf kd d).2.2 = false ∧ (qbf kd d).1 = d := by
            have hb : qe3 d = (d, none) := by unfold qe3; rw [qb2, qi6 he, if_neg noBd]
            unfold qbf
            rw [hb, if_neg (by simp)]
            exact ⟨rfl, rfl⟩
          rw [hk.1, if_neg noBd]
          exact ⟨hk.2, (fun q => by cases q), fun _ => by show (qbf kd d).1.err ≠ 0; rw [hk.2]; exact he⟩
theorem qg7 {kd : Int} {c : K} (h : c.err ≠ 0) : (qlw kd c).1 = c := by
  unfold qlw qth qts
  rw [qbv h]
  simp only
  rw [qbv h]
  simp only
  rw [if_neg (by rw [decide_eq_false h]; exact noBd), qbv h]
theorem qmt {k : Int} {c : K} (h : c.err ≠ 0) : (qe1 k c).1 = c := by
  unfold qe1
  split
  · rw [qi6 h]
  · exact qv7 h
theorem q64 {c : K} {k : Int} (h : (qw c).kind ≠ k) : (kindK c k).1 = qd3 c 5 := by
  unfold kindK
  split
  · rename_i q
    simp only [Bool.and_eq_true, decide_eq_true_eq] at q
    exact absurd q.2 h
  · rfl
theorem qzo (k p : Int) {c : K} (hn : NoEnd c) : AlR (qku k p c) (qn6 k p c) := by
  have hP := qvb hn
  unfold qku qn6 q0i qy9
  cases h1 : (qcz c).2 with
  | none =>
    have h3 : (qcz c).1.err ≠ 0 := hP.2.2 h1
    rw [Option.isSome_none, if_neg noBd, ← hP.1, qi6 h3]
    refine ⟨?_, (fun q => by cases q), fun _ => h3⟩
    simp only
    rw [qmt h3, qg7 h3]
  | some v =>
    have e2 : v = (qjg c).2 := hP.2.1 v h1
    have hnp := hn.mon (qgf c)
    rw [Option.isSome_some, if_pos rfl, Option.getD_some, ← e2, ← hP.1]
    unfold q15
    cases h2 : (kindK (qcz c).1 2).2 with
    | false =>
      have h3 := qlk h2
      rw [if_neg noBd]
      refine ⟨?_, (fun q => by cases q), fun _ => h3⟩
      simp only
      rw [qmt h3, qg7 h3]
    | true =>
      rw [if_pos rfl]
      have hnk := hnp.mon (qb8 (qcz c).1 2)
      generalize (kindK (qcz c).1 2).1 = d at *
      unfold qw3
      by_cases h3 : k = 35 ∧ (qw d).kind ≠ 1
      · rw [if_pos h3]
        have e3 : (qe1 k d).1 = qd3 d 5 := by unfold qe1; rw [if_pos h3.1]; exact q64 h3.2
        refine ⟨?_, (fun q => by cases q), fun _ => qfn d⟩
        simp only
        rw [e3, qg7 (qfn d)]
      · rw [if_neg h3]
        have hA : qdr (qfz d) (qe1 k d) := by
          by_cases h5 : k = 35
          · have hk : (qw d).kind = 1 := by
              by_cases hq : (qw d).kind = 1
              · exact hq
              · exact absurd ⟨h5, hq⟩ h3
            have he : d.err = 0 := (qfd (by rw [hk]; decide)).1
            have ha : qfz d = (q7 d, some (qho d 1 [])) := by unfold qfz; rw [qbo, if_pos hk]
            have hb : qe1 k d = (q7 d, qho d 1 []) := by
              unfold qe1
              rw [if_pos h5, ql6 he hk, qpx he hk]; rfl
            rw [ha, hb]
            exact ⟨rfl, fun n h => by cases h; rfl, fun h => by cases h⟩
          · have : qe1 k d = qe4 d := by unfold qe1; rw [if_neg h5]
            rw [this]; exact qpp d
        unfold q1m
        have hna := hnk.mon (qhx d)
        cases ha : (qfz d).2 with
        | none =>
          have h4 : (qfz d).1.err ≠ 0 := hA.2.2 ha
          rw [Option.isSome_none, if_neg noBd]
          refine ⟨?_, (fun q => by cases q), fun _ => h4⟩
          simp only
          rw [← hA.1, qg7 h4]
        | some a =>
          have e4 : a = (qe1 k d).2 := hA.2.1 a ha
          rw [Option.isSome_some, if_pos rfl, Option.getD_some, ← hA.1, ← e4]
          have hB := q99 (if k = 35 then 32 else 31) (qfz d).1 (v ++ [a]) hna
          refine ⟨hB.1, fun q => ?_, hB.2.2⟩
          exact congrArg (qlo k p (qef (qcz c).1 2) v) (hB.2.1 q)
theorem qbae {c : K} (hn : NoEnd c) : AlR (qdc c) (qz9 c) := by
  unfold qdc qz9
  split
  · exact qbb1 _ _
  · split
    · exact qzo _ _ (hn.mon (qz _ _))
    · split
      · exact qzo _ _ (hn.mon (qz _ _))
      · exact qbcz (qqg hn)
end Go.Proofs.Ytfjbmjplnmaclaa
