/- Texts of this proof, joined. -/
import Derived.Test.YtbbjelfnocmaoaaGreatDah
import Derived.WalkKit
import Derived.ProofKit
import Derived.OpenShut
import Derived.Carry
import Derived.ChangeSame
import Derived.Below

/-
 The value logic, part w: from a statement's reading of an argument to the argument as a value.
-/
namespace Go.V
open Go Go.RowKit
set_option linter.unusedVariables false
set_option linter.unusedSimpArgs false

def MM (w : World) (b o : Nat) : Prop := ∃ v, w.cell? ⟨b, o, none⟩ = some v ∧ v.oneCell' = true

theorem stM (w : World) : St w (MM w) [] [] := by
 refine ⟨rfl, fun i g e h => by simp at h, fun i j g g' b h => by simp at h, fun i g b h => by simp at h, fun b o ⟨v, h, _⟩ => ?_, fun b o v ⟨v', h, h1⟩ h2 => by rw [h] at h2; cases h2; exact h1⟩
 by_cases hb : b < w.heap.size
 ·exact hb
 ·exfalso
  unfold World.cell? at h
  simp only at h
  rw [Array.getElem?_eq_none (by omega)] at h
  simp at h

theorem qbq8 {w w' : World} {M M' : Nat → Nat → Prop} {G' : List Gh} (h : Ext w M [] w' M' G') : Below w.heap.size w w' :=
 ⟨h.os, h.tape, h.output, h.size, fun k hk => h.out k hk (fun ⟨i, g, hg, _⟩ => by simp at hg)⟩

theorem qi6 {α β : Type} {f : α → Option β} : ∀ {l : List α} {r : List β}, l.mapM f = some r → r.length = l.length ∧ ∀ (j : Nat) (y : β), r[j]? = some y → ∃ x, l[j]? = some x ∧ f x = some y
 | [], r, h => by
   simp only [List.mapM_nil, Option.pure_def, Option.some.injEq] at h
   subst h
   exact ⟨rfl, fun j y hj => by simp at hj⟩
 | a :: l, r, h => by
   simp only [List.mapM_cons, Option.bind_eq_bind, Option.pure_def] at h
   obtain ⟨b, h1, h2⟩ := Option.bind_eq_some_iff.1 h
   obtain ⟨r', h3, h4⟩ := Option.bind_eq_some_iff.1 h2
   simp only [Option.some.injEq] at h4
   subst h4
   obtain ⟨q1, q2⟩ := qi6 h3
   refine ⟨by simp [q1], fun j y hj => ?_⟩
   cases j with
   | zero => simp at hj; subst hj; exact ⟨a, rfl, h1⟩
   | succ j => simp at hj; obtain ⟨x, r1, r2⟩ := q2 j y hj; exact ⟨x, by simpa using r1, r2⟩
def elA (P : Program) (T : TypeId) (ds : List AV) : AV :=
 match P.underlying T with
 | some (.struct _) | some (.array _ _) => .agg ds
 | _ => ds.headD .junk
def fieldsOf (fs : Array Field) : List (TypeId × Nat) := fs.toList.map fun x => (x.type, x.offset)
def qf5 (P : Program) (n : Nat) (e : TypeId) : List (TypeId × Nat) := (List.range n).map fun i => (e, i * P.cellsOf e)
def TC (P : Program) : Nat → TypeId → List AV → Prop
 | 0, _, _ => False
 | f + 1, T, cs => match P.underlying T with
   | some (.int k) => ∃ n, cs = [.int k n]
   | some .string => ∃ l, cs = [.str l]
   | some .bool => ∃ b, cs = [.bool b]
   | some (.slice S) => ∃ es, cs = [.sl (P.cellsOf S) es] ∧ ∀ e ∈ es, ∃ ds, TC P f S ds ∧ e = elA P S ds
   | some (.struct fs) => cs.length = P.cellsOf T ∧ ∀ x ∈ fieldsOf fs, TC P f x.1 ((cs.drop x.2).take (P.cellsOf x.1))
   | some (.array n e) => cs.length = P.cellsOf T ∧ ∀ x ∈ qf5 P n e, TC P f x.1 ((cs.drop x.2).take (P.cellsOf x.1))
   | _ => False
def qmq (P : Program) : Nat → List (TypeId × Nat) → Nat → Bool
 | o, [], n => o == n
 | o, x :: r, n => x.2 == o && qmq P (o + P.cellsOf x.1) r n
def qkv (P : Program) (L : List TypeId) (T : TypeId) : Bool :=
 match P.underlying T with
 | some (.int _) | some .string | some .bool => P.cellsOf T == 1
 | some (.slice S) => L.contains S && P.cellsOf S != 0 && P.cellsOf T == 1
 | some (.struct fs) => qmq P 0 (fieldsOf fs) (P.cellsOf T) && (fieldsOf fs).all fun x => L.contains x.1
 | some (.array n e) => qmq P 0 (qf5 P n e) (P.cellsOf T) && L.contains e
 | _ => false

theorem qrg {P : Program} : ∀ {l : List (TypeId × Nat)} {o n : Nat}, qmq P o l n = true → o ≤ n
 | [], o, n, h => by simp only [qmq, beq_iff_eq] at h; omega
 | x :: r, o, n, h => by
   simp only [qmq, Bool.and_eq_true] at h
   have := qrg h.2
   omega

section
variable {H : Type} {enc' : TypeId × Value → H} {P : Program} {w : World} {base : Nat} {sp : Nat → Bool} {held : Bool}

theorem ql8 {a : Addr} {n : Nat} {cs : List Value} (h : w.cells? base a n = some cs) : cs.length = n ∧ ∀ (j : Nat) (v : Value), cs[j]? = some v → w.cell? (a.add j) = some v := by
 unfold World.cells? at h
 split at h
 ·obtain ⟨h1, h2⟩ := qi6 h
  refine ⟨by simpa using h1, fun j v hj => ?_⟩
  obtain ⟨x, q1, q2⟩ := h2 j v hj
  rw [List.getElem?_range (by have := (List.getElem?_eq_some_iff.1 q1).1; simpa using this)] at q1
  simp only [Option.some.injEq] at q1
  subst q1
  exact q2
 ·cases h

theorem qor {m : Nat} : ∀ {us : List Value}, (∀ u ∈ us, u.cells.size = m) → ∀ {j : Nat} {v : Value}, (us.flatMap (·.cells.toList))[j]? = some v → ∃ i q u, us[i]? = some u ∧ u.cells.toList[q]? = some v ∧ j = i * m + q
 | [], _, j, v, h => by simp at h
 | u :: us, hm, j, v, h => by
   rw [List.flatMap_cons] at h
   have hu : u.cells.toList.length = m := by simpa using hm u (by simp)
   by_cases hj : j < m
   ·rw [List.getElem?_append_left (by omega)] at h
    exact ⟨0, j, u, rfl, h, by omega⟩
   ·rw [List.getElem?_append_right (by omega), hu] at h
    obtain ⟨i, q, u', h1, h2, h3⟩ := qor (fun u hu => hm u (by simp [hu])) h
    exact ⟨i + 1, q, u', h1, h2, by rw [Nat.add_mul]; omega⟩

def elV (P : Program) (T : TypeId) (cs : List Value) : Value :=
 match P.underlying T with
 | some (.struct _) | some (.array _ _) => .agg cs.toArray
 | _ => cs.headD .nilIface

theorem qbs0 {S : TypeId} {as : List AV} {cs : List Value} (h : VRs w (MM w) [] as cs) (hl : as.all AV.leaf = true) (hn : as.length = P.cellsOf S)
 (h1 : (∀ fs, P.underlying S ≠ some (.struct fs)) → (∀ n e, P.underlying S ≠ some (.array n e)) → P.cellsOf S = 1) :
 VR w (MM w) [] (elA P S as) (elV P S cs) ∧ (elV P S cs).cells.toList = cs := by
 unfold elA elV
 split
 ·exact ⟨⟨cs, rfl, h⟩, by simp [Value.cells]⟩
 ·exact ⟨⟨cs, rfl, h⟩, by simp [Value.cells]⟩
 ·rename_i g1 g2
  have := h1 g1 g2
  match as, h, hn, hl with
  | [a], h, _, hl =>
    obtain ⟨v, r, rfl, h2, h3⟩ := h
    simp only [VRs] at h3
    subst h3
    simp only [List.headD_cons]
    refine ⟨h2, ?_⟩
    rw [(qfu h2 (by simpa using hl)).2]
  | [], _, hn, _ => simp only [List.length_nil] at hn; omega
  | _ :: _ :: _, _, hn, _ => simp only [List.length_cons] at hn; omega

theorem qj0 {L : List TypeId} {S : TypeId} (h : qkv P L S = true) (g1 : ∀ fs, P.underlying S ≠ some (.struct fs)) (g2 : ∀ n e, P.underlying S ≠ some (.array n e)) : P.cellsOf S = 1 := by
 unfold qkv at h
 split at h
 all_goals first
  | (simp only [beq_iff_eq] at h; exact h)
  | (simp only [Bool.and_eq_true, beq_iff_eq] at h; exact h.2)
  | (rename_i hu; exact absurd hu (g1 _))
  | (rename_i hu; exact absurd hu (g2 _ _))
  | (cases h)

end

section
variable {P : Program} {f : Nat} {T S : TypeId} {k : IntKind} {cs : List AV}
theorem q4h (hT : P.underlying T = some (.int k)) (h : TC P f T cs) : ∃ n, cs = [.int k n] := by
 cases f with
 | zero => exact h.elim
 | succ f => simpa only [TC, hT] using h
theorem qqt (hT : P.underlying T = some .string) (h : TC P f T cs) : ∃ l, cs = [.str l] := by
 cases f with
 | zero => exact h.elim
 | succ f => simpa only [TC, hT] using h
theorem q6u (hT : P.underlying T = some (.slice S)) (h : TC P f T cs) : ∃ f' es, f = f' + 1 ∧ cs = [.sl (P.cellsOf S) es] ∧ ∀ e ∈ es, ∃ ds, TC P f' S ds ∧ e = elA P S ds := by
 cases f with
 | zero => exact h.elim
 | succ f =>
   simp only [TC, hT] at h
   obtain ⟨es, h1, h2⟩ := h
   exact ⟨f, es, rfl, h1, h2⟩
theorem qbf5 {fs : Array Field} (hT : P.underlying T = some (.struct fs)) (h : TC P f T cs) : ∃ f', f = f' + 1 ∧ cs.length = P.cellsOf T ∧ ∀ x ∈ fieldsOf fs, TC P f' x.1 ((cs.drop x.2).take (P.cellsOf x.1)) := by
 cases f with
 | zero => exact h.elim
 | succ f =>
   simp only [TC, hT] at h
   exact ⟨f, rfl, h⟩
theorem qxq {fs : Array Field} (hT : P.underlying T = some (.struct fs)) (ds : List AV) : elA P T ds = .agg ds := by unfold elA; rw [hT]
theorem qbpz (hT : P.underlying T = some (.slice S)) (a : AV) : elA P T [a] = a := by unfold elA; rw [hT]; rfl
theorem qpj {α : Type} [Inhabited α] {enc : α → AV} {f' : Nat} {es : List AV} (he : ∀ e ∈ es, ∃ ds, TC P f' S ds ∧ e = elA P S ds) (h : ∀ ds, TC P f' S ds → ∃ a, elA P S ds = enc a) : ∃ l : List α, es = l.map enc := by
 induction es with
 | nil => exact ⟨[], rfl⟩
 | cons e es ih =>
   obtain ⟨l, rfl⟩ := ih fun e he' => he e (by simp [he'])
   obtain ⟨ds, h1, rfl⟩ := he e (by simp)
   obtain ⟨a, ha⟩ := h ds h1
   exact ⟨a :: l, by rw [ha]; rfl⟩
end

section
open Go.ChangeShapes Go.WideShapes Go.ChangeAt
variable {H : Type} {enc' : TypeId × Value → H} {P : Program}
theorem qst {f : Func} {s : ChangeSpec} {qlv fresh handsOn again : Bool} {W W' : World} {args : Array Value} {v : Value} {ds gs : List (DataW H)} {before pa pv : List MemPlace}
 (hW : DataW.Whole enc' P f.params.toList s.vars qlv W args.toList ds gs before)
 (hres : ∀ (b : Nat) (sp : Nat → Bool) (hd : Bool), DataW.TrodAll enc' P W' b sp hd f.resultTypes.toList (v.resultList f.resultTypes.size) (s.fn H (ds ++ gs)).results [])
 (hargs : ∀ sp : Nat → Bool, (∀ p ∈ before, sp p.block = true) → DataW.TrodAll enc' P W' 0 sp true f.params.toList args.toList (s.fn H (ds ++ gs)).args pa)
 (hvars : ∀ sp : Nat → Bool, (∀ p ∈ before, sp p.block = true) → DataW.TrodVars enc' P W' sp s.vars (s.fn H (ds ++ gs)).vars pv)
 (hps : before = pa ++ pv) (hb : Below W.heap.size W W')
 (hok : ∀ (j : Nat) (t : TypeId) (r : Value), f.resultTypes[j]? = some t → (v.resultList f.resultTypes.size)[j]? = some r → Value.okWide P W' .any 0 t r) :
 s.post enc' P f qlv fresh handsOn again W args v W' := by
 have hlt : ∀ p ∈ before, p.block < W.heap.size := fun p hp => hW.lt p hp
 have hold : ∀ p ∈ before, (fun b => decide (b < W.heap.size)) p.block = true := fun p hp => by simpa using hlt p hp
 refine ⟨ds, gs, before, [], pa, pv, hW, hres _ _ _, hargs _ hold, hvars _ hold, World.keptBut_mono (fun p hp => ⟨hp, ?_⟩) (hb.frame (· ∈ before)), fun _ => ?_⟩
 ·rw [hps, List.mem_append] at hp
  exact Or.inr hp
 ·obtain ⟨_, _, _, _, _, hz, hn⟩ := hW
  refine ⟨hok, _, _, ([] ++ pa) ++ pv, ⟨[] ++ pa, pv, trodAll_append (hargs _ (fun _ _ => rfl)) (hres _ _ _), hvars _ (fun _ _ => rfl), rfl, ?_, ?_⟩, ?_⟩
  ·intro b off hp
   have hin : MemPlace.cell b off ∈ before := by rw [hps]; simpa using hp
   rw [hb.frozen (hlt _ hin)]
   exact hz b off hin
  ·intro ha
   have := hn ha
   rw [hps] at this
   simpa using this
  ·intro p hp _
   rw [hps]
   simpa using hp
end
end Go.V

/-
 Types as data.
-/
namespace Go.V
open Go Go.RowKit
set_option linter.unusedVariables false

inductive Ty where
 | mk (con : List UInt8) (var : Int) (args : List Ty)

def Ty.con : Ty → List UInt8 | .mk c _ _ => c
def Ty.var : Ty → Int | .mk _ v _ => v
def Ty.args : Ty → List Ty | .mk _ _ l => l

mutual
def encY : Ty → AV
 | .mk c v l => .agg [.str c, .int .i64 v, .sl 3 (qj l)]
def qj : List Ty → List AV
 | [] => []
 | x :: r => encY x :: qj r
end
theorem qbx (l : List Ty) : qj l = l.map encY := by
 induction l with
 | nil => rfl
 | cons x r ih => simp [qj, ih]
theorem qbh (n : Ty) : AV.agg [.str n.con, .int .i64 n.var, .sl 3 (qj n.args)] = encY n := by
 cases n; simp only [encY, Ty.con, Ty.var, Ty.args]
theorem quh (n : Ty) : (encY n).cells = [.str n.con, .int .i64 n.var, .sl 3 (qj n.args)] := by rw [← qbh]; rfl

theorem Ty.ind {p : Ty → Prop} (h : ∀ n : Ty, (∀ x ∈ n.args, p x) → p n) : ∀ n, p n := by
 intro n
 refine Ty.rec (motive_1 := p) (motive_2 := fun l => ∀ x ∈ l, p x) (fun c v l ih => h (.mk c v l) ih) (fun x hx => by cases hx) (fun x r h1 h2 y hy => ?_) n
 rcases List.mem_cons.1 hy with rfl | hy
 ·exact h1
 ·exact h2 y hy

theorem qbp (k : Nat) : ∀ n, (encY n).bd k = true := Ty.ind fun n ih => by
 simp only [← qbh n, AV.bd, AV.bds, qbx, qdk, Bool.true_and, Bool.and_true, List.all_map, List.all_eq_true]
 exact ih
theorem qbr (k : Nat) (l : List Ty) : AV.bds k (qj l) = true := by
 rw [qbx, qdk, List.all_map, List.all_eq_true]; exact fun x _ => qbp k x
theorem qlx (σ : Nat → Nat) (n : Ty) : (encY n).ren σ = encY n := ren_same (m := 0) (fun i hi => by omega) _ (qbp 0 n)
theorem qcq (σ : Nat → Nat) (l : List Ty) : AV.rens σ (qj l) = qj l := qp (m := 0) (fun i hi => by omega) _ (qbr 0 l)
theorem qbke (H : List Ent) (n : Ty) : co H (.agg [.id, .id, .sl 3]) (encY n) = encY n := by
 rw [← qbh]; simp only [qn6, qf9, qip, qpv, qgo]
theorem qu9 (n : Ty) : rdCo (.agg [.id, .id, .sl 3]) (encY n) = [] := by
 rw [← qbh]; simp only [qf7, qdu, qew, qji, qdw, List.append_nil]
theorem qrn (n : Ty) : (encY n).isAgg = true := by cases n; rfl
theorem qt0 (n : Ty) : (encY n).cells.all AV.leaf = true := by cases n; rfl
theorem qo (l : List Ty) : (qj l).length = l.length := by rw [qbx]; simp
theorem qsn {l : List Ty} {i : Nat} (h : i < l.length) : (qj l).getD i .junk = encY l[i] := by rw [qbx, List.getD_eq_getElem?_getD, List.getElem?_map, List.getElem?_eq_getElem h]; rfl
def Ty.wf (n : Ty) : Prop := n.args.length ≤ maxLen ∧ n.con.length ≤ maxLen ∧ (Lit.int .i64 n.var).wf = true ∧ ∀ x ∈ n.args, (encY x).wf
theorem qhl (n : Ty) : (encY n).wf ↔ n.wf := by
 rw [← qbh]
 simp only [AV.wf, AV.wfs, qo, Ty.wf, qi5, qbx, List.mem_map, forall_exists_index, and_imp, forall_apply_eq_imp_iff₂, and_true]
 simp only [List.length_map]
 constructor
 ·rintro ⟨h1, h2, h3, h4⟩; exact ⟨h3, h1, h2, h4⟩
 ·rintro ⟨h1, h2, h3, h4⟩; exact ⟨h2, h3, h1, h4⟩
theorem qnn (n : Ty) : (encY n).leaf = false := by cases n; rfl
abbrev yc (n : Ty) : List AV := [.str n.con, .int .i64 n.var, .sl 3 (qj n.args)]
attribute [go_sem] yc
def Y0 : Ty := .mk [] 0 []
theorem qs {l : List Ty} {i : Nat} (h : i < l.length) : (qj l).getD i .junk = encY (l.getD i Y0) := by
 rw [qsn h, List.getD_eq_getElem?_getD, List.getElem?_eq_getElem h]; rfl
theorem q7 {l : List Ty} {i : Nat} (h : i < l.length) : l.getD i Y0 ∈ l := by
 rw [List.getD_eq_getElem?_getD, List.getElem?_eq_getElem h]; exact List.getElem_mem h
theorem qmo {l : List Ty} {i : Nat} (h : i < l.length) : l.drop i = l.getD i Y0 :: l.drop (i + 1) := by
 rw [List.drop_eq_getElem_cons h, List.getD_eq_getElem?_getD, List.getElem?_eq_getElem h]; rfl
theorem q34 (b : Bool) (n off : Nat) (t : Ty) : fldv b n off (encY t) = ldc b n off [.str t.con, .int .i64 t.var, .sl 3 (qj t.args)] := by rw [← qbh]; rfl
theorem qc8 (a : List Ty) (t : Ty) : qj a ++ [encY t] = qj (a ++ [t]) := by simp [qbx]
attribute [go_sem] q34 qu9 qbp qbr qlx qcq qbke qrn quh qbh qnn qo

structure Pd where
 cls : List UInt8
 ty : Ty
def encP (p : Pd) : AV := .agg [.str p.cls, .str p.ty.con, .int .i64 p.ty.var, .sl 3 (qj p.ty.args)]
def qu (l : List Pd) : List AV := l.map encP
def P0 : Pd := ⟨[], Y0⟩
abbrev pdc (p : Pd) : List AV := [.str p.cls, .str p.ty.con, .int .i64 p.ty.var, .sl 3 (qj p.ty.args)]
theorem qu7 (p : Pd) : AV.agg [.str p.cls, .str p.ty.con, .int .i64 p.ty.var, .sl 3 (qj p.ty.args)] = encP p := rfl
theorem qtp (p : Pd) : (encP p).cells = pdc p := rfl
theorem qo6 (k : Nat) (p : Pd) : (encP p).bd k = true := by simp only [encP, AV.bd, AV.bds, qbr, Bool.and_true]
theorem qcx (k : Nat) (l : List Pd) : AV.bds k (qu l) = true := by rw [qu, qdk, List.all_map, List.all_eq_true]; exact fun x _ => qo6 k x
theorem q0w (σ : Nat → Nat) (p : Pd) : (encP p).ren σ = encP p := ren_same (m := 0) (fun i hi => by omega) _ (qo6 0 p)
theorem qjz (σ : Nat → Nat) (l : List Pd) : AV.rens σ (qu l) = qu l := qp (m := 0) (fun i hi => by omega) _ (qcx 0 l)
theorem qbbm (H : List Ent) (p : Pd) : co H (.agg [.id, .id, .id, .sl 3]) (encP p) = encP p := by
 simp only [encP, qn6, qf9, qip, qpv, qgo]
theorem qv5 (p : Pd) : rdCo (.agg [.id, .id, .id, .sl 3]) (encP p) = [] := by
 simp only [encP, qf7, qdu, qew, qji, qdw, List.append_nil]
theorem qy8 (p : Pd) : (encP p).isAgg = true := rfl
theorem qn9 (p : Pd) : (encP p).leaf = false := rfl
theorem qbi (l : List Pd) : (qu l).length = l.length := by simp [qu]
theorem qbf {l : List Pd} {i : Nat} (h : i < l.length) : (qu l).getD i .junk = encP (l.getD i P0) := by
 rw [qu, List.getD_eq_getElem?_getD, List.getElem?_map, List.getElem?_eq_getElem h, List.getD_eq_getElem?_getD, List.getElem?_eq_getElem h]; rfl
theorem qcd {l : List Pd} {i : Nat} (h : i < l.length) : l.getD i P0 ∈ l := by
 rw [List.getD_eq_getElem?_getD, List.getElem?_eq_getElem h]; exact List.getElem_mem h
theorem qxu {l : List Pd} {i : Nat} (h : i < l.length) : l.drop i = l.getD i P0 :: l.drop (i + 1) := by
 rw [List.drop_eq_getElem_cons h, List.getD_eq_getElem?_getD, List.getElem?_eq_getElem h]; rfl
theorem qc6 (l : List Pd) (p : Pd) : qu l ++ [encP p] = qu (l ++ [p]) := by simp [qu]
theorem qog (p : Pd) : [encP p] = qu [p] := rfl
theorem qcr : qu [] = [] := rfl
theorem qfc {l : List Pd} (h : l ≠ []) : qu l ≠ [] := by cases l with | nil => exact absurd rfl h | cons _ _ => simp [qu]
theorem qsy (n : Nat) (l : List Pd) : (qu l).take n = qu (l.take n) := by simp [qu]
theorem qse (n : Nat) (l : List Pd) : (qu l).drop n = qu (l.drop n) := by simp [qu]
theorem q27 (b : Bool) (n off : Nat) (p : Pd) : fldv b n off (encP p) = ldc b n off (pdc p) := rfl
theorem qo1 {p : Pd} (h : (encP p).wf) : p.cls.length ≤ maxLen ∧ (encY p.ty).wf := by
 obtain ⟨h1, h2, h3, h4, _⟩ := h
 rw [← qbh]
 exact ⟨h1, h2, h3, h4, trivial⟩
theorem qb7 {l : List Pd} {n : Nat} (h : (AV.sl n (qu l)).wf) : l.length ≤ maxLen ∧ ∀ p ∈ l, (encP p).wf := by
 refine ⟨by have := h.1; rwa [qbi] at this, fun p hp => (qi5 _).1 h.2 _ ?_⟩
 rw [qu]; exact List.mem_map_of_mem hp
attribute [go_sem] pdc q27 qv5 qo6 qcx q0w qjz qbbm qy8 qtp qu7 qn9 qbi qsy qse
end Go.V
