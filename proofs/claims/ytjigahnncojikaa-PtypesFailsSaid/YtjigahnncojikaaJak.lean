/- A text of this proof. -/
import Derived.Test.YtjigahnncojikaaJaj
import Derived.WalkKit
import Derived.ProofKit
import Derived.OpenShut
import Derived.Carry
import Derived.ChangeSame
import Derived.Below

/- from the statement's reading of a tree to the tree -/
namespace Go.V
open Go Go.RowKit
set_option linter.unusedVariables false
set_option linter.unusedSimpArgs false

/-- All that may be read when the call begins. -/
def M0 (w : World) (b o : Nat) : Prop := ∃ v, w.cell? ⟨b, o, none⟩ = some v ∧ v.oneCell' = true

theorem st0 (w : World) : St w (M0 w) [] [] := by
  refine ⟨rfl, fun i g e h => by simp at h, fun i j g g' b h => by simp at h, fun i g b h => by simp at h, fun b o ⟨v, h, _⟩ => ?_, fun b o v ⟨v', h, h1⟩ h2 => by rw [h] at h2; cases h2; exact h1⟩
  by_cases hb : b < w.heap.size
  · exact hb
  · exfalso
    unfold World.cell? at h
    simp only at h
    rw [Array.getElem?_eq_none (by omega)] at h
    simp at h

theorem below0 {w w' : World} {M M' : Nat → Nat → Prop} {G' : List Gh} (h : Ext w M [] w' M' G') : Below w.heap.size w w' :=
  ⟨h.os, h.tape, h.output, h.size, fun k hk => h.out k hk (fun ⟨i, g, hg, _⟩ => by simp at hg)⟩

theorem mapM_get {α β : Type} {f : α → Option β} : ∀ {l : List α} {r : List β}, l.mapM f = some r → r.length = l.length ∧ ∀ (j : Nat) (y : β), r[j]? = some y → ∃ x, l[j]? = some x ∧ f x = some y
  | [], r, h => by
    simp only [List.mapM_nil, Option.pure_def, Option.some.injEq] at h
    subst h
    exact ⟨rfl, fun j y hj => by simp at hj⟩
  | a :: l, r, h => by
    simp only [List.mapM_cons, Option.bind_eq_bind, Option.pure_def] at h
    obtain ⟨b, h1, h2⟩ := Option.bind_eq_some_iff.1 h
    obtain ⟨r', h3, h4⟩ := Option.bind_eq_some_iff.1 h2
    simp only [Option.some.injEq] at h4
    subst h4
    obtain ⟨q1, q2⟩ := mapM_get h3
    refine ⟨by simp [q1], fun j y hj => ?_⟩
    cases j with
    | zero => simp at hj; subst hj; exact ⟨a, rfl, h1⟩
    | succ j => simp at hj; obtain ⟨x, r1, r2⟩ := q2 j y hj; exact ⟨x, by simpa using r1, r2⟩
theorem mapM_all {α β : Type} {f : α → Option β} {l : List α} {r : List β} (h : l.mapM f = some r) : ∀ x ∈ l, ∃ y, f x = some y := by
  intro x hx
  obtain ⟨h1, h2⟩ := mapM_get h
  obtain ⟨j, hj⟩ := List.mem_iff_getElem?.1 hx
  have hjl := (List.getElem?_eq_some_iff.1 hj).1
  obtain ⟨x', q1, q2⟩ := h2 j (r[j]'(by omega)) (by rw [List.getElem?_eq_getElem])
  rw [hj] at q1
  simp only [Option.some.injEq] at q1
  subst q1
  exact ⟨_, q2⟩

section
variable {H : Type} {enc' : TypeId × Value → H} {P : Program} {w : World} {base : Nat} {sp : Nat → Bool} {held : Bool} {I Z S T : TypeId}

theorem trod_int (hI : P.underlying I = some (.int .i64)) {fuel : Nat} {c : Value} {x : DataW H × List MemPlace} (h : DataW.trod enc' P w base sp held fuel I [c] = some x) : ∃ k, c = .int .i64 k ∧ (Lit.int .i64 k).wf = true := by
  cases fuel with
  | zero => simp [DataW.trod] at h
  | succ f =>
    simp only [DataW.trod, hI] at h
    split at h <;> simp_all
theorem trod_str (hZ : P.underlying Z = some .string) {fuel : Nat} {c : Value} {x : DataW H × List MemPlace} (h : DataW.trod enc' P w base sp held fuel Z [c] = some x) : ∃ s, c = .string s ∧ s.size ≤ maxLen := by
  cases fuel with
  | zero => simp [DataW.trod] at h
  | succ f =>
    simp only [DataW.trod, hZ] at h
    split at h <;> simp_all
theorem trod_sl (hS : P.underlying S = some (.slice T)) {fuel : Nat} {c : Value} {x : DataW H × List MemPlace} (h : DataW.trod enc' P w base sp held fuel S [c] = some x) :
    c = .slice none 0 0 ∨ ∃ a len cap f, fuel = f + 1 ∧ c = .slice (some a) len cap ∧ len ≤ cap ∧ cap ≤ maxLen ∧ ∀ i, i < len → ∃ cs y, w.cells? base (a.add (i * P.cellsOf T)) (P.cellsOf T) = some cs ∧ DataW.trod enc' P w base sp held f T cs = some y := by
  cases fuel with
  | zero => simp [DataW.trod] at h
  | succ f =>
    simp only [DataW.trod, hS] at h
    split at h
    all_goals first
      | (simp at *; done)
      | skip
    · exact .inl (by simp_all)
    · rename_i e a len cap he hc
      simp only [Option.some.injEq, TypeDesc.slice.injEq] at he
      subst he
      simp only [List.cons.injEq, and_true] at hc
      subst hc
      split at h
      · rename_i hb
        obtain ⟨elems, h1, h2⟩ := Option.bind_eq_some_iff.1 h
        refine .inr ⟨a, len, cap, f, rfl, rfl, hb.2.1, hb.2.2, fun i hi => ?_⟩
        obtain ⟨y, hy⟩ := mapM_all h1 i (List.mem_range.2 hi)
        obtain ⟨cs, q1, q2⟩ := Option.bind_eq_some_iff.1 hy
        exact ⟨cs, y, q1, q2⟩
      · cases h

theorem cells_get {a : Addr} {n : Nat} {cs : List Value} (h : w.cells? base a n = some cs) : cs.length = n ∧ ∀ (j : Nat) (v : Value), cs[j]? = some v → w.cell? (a.add j) = some v := by
  unfold World.cells? at h
  split at h
  · obtain ⟨h1, h2⟩ := mapM_get h
    refine ⟨by simpa using h1, fun j v hj => ?_⟩
    obtain ⟨x, q1, q2⟩ := h2 j v hj
    rw [List.getElem?_range (by have := (List.getElem?_eq_some_iff.1 q1).1; simpa using this)] at q1
    simp only [Option.some.injEq] at q1
    subst q1
    exact q2
  · cases h

theorem flat_index {m : Nat} : ∀ {us : List Value}, (∀ u ∈ us, u.cells.size = m) → ∀ {j : Nat} {v : Value}, (us.flatMap (·.cells.toList))[j]? = some v → ∃ i q u, us[i]? = some u ∧ u.cells.toList[q]? = some v ∧ j = i * m + q
  | [], _, j, v, h => by simp at h
  | u :: us, hm, j, v, h => by
    rw [List.flatMap_cons] at h
    have hu : u.cells.toList.length = m := by simpa using hm u (by simp)
    by_cases hj : j < m
    · rw [List.getElem?_append_left (by omega)] at h
      exact ⟨0, j, u, rfl, h, by omega⟩
    · rw [List.getElem?_append_right (by omega), hu] at h
      obtain ⟨i, q, u', h1, h2, h3⟩ := flat_index (fun u hu => hm u (by simp [hu])) h
      exact ⟨i + 1, q, u', h1, h2, by rw [Nat.add_mul]; omega⟩

theorem nc_leaf (n : N) : (nc n).all AV.leaf = true := rfl
theorem vr_agg {M : Nat → Nat → Prop} {G : List Gh} {n : N} {cs : List Value} (h : VRs w M G (nc n) cs) : VR w M G (enc n) (.agg cs.toArray) := by
  rw [← enc_fold]; exact ⟨cs, rfl, h⟩

theorem trod_node {fs : Array Field} (hI : P.underlying I = some (.int .i64)) (hZ : P.underlying Z = some .string) (hS : P.underlying S = some (.slice T)) (hT : P.underlying T = some (.struct fs))
    (hfs : fs.toList.map (fun f => (f.type, f.offset)) = [(I, 0), (I, 1), (I, 2), (Z, 3), (S, 4)]) (cI : P.cellsOf I = 1) (cZ : P.cellsOf Z = 1) (cS : P.cellsOf S = 1) (cT : P.cellsOf T = 5) :
    ∀ (fuel : Nat) (cs : List Value) (x : DataW H × List MemPlace), DataW.trod enc' P w base sp held fuel T cs = some x → ∃ n, VRs w (M0 w) [] (nc n) cs := by
  intro fuel
  induction fuel using Nat.strongRecOn with
  | _ fuel ih =>
    intro cs x h
    cases fuel with
    | zero => simp [DataW.trod] at h
    | succ f =>
      simp only [DataW.trod, hT] at h
      split at h
      · rename_i hlen
        rw [cT] at hlen
        obtain ⟨xs, h1, _⟩ := Option.map_eq_some_iff.1 h
        obtain ⟨f0, f1, f2, f3, f4, hfl⟩ : ∃ f0 f1 f2 f3 f4, fs.toList = [f0, f1, f2, f3, f4] := by
          have := congrArg List.length hfs
          simp only [List.length_map, List.length_cons, List.length_nil] at this
          match hh : fs.toList, this with
          | [f0, f1, f2, f3, f4], _ => exact ⟨f0, f1, f2, f3, f4, rfl⟩
        rw [hfl] at hfs
        simp only [List.map_cons, List.map_nil, List.cons.injEq, Prod.mk.injEq, and_true] at hfs
        obtain ⟨⟨t0, o0⟩, ⟨t1, o1⟩, ⟨t2, o2⟩, ⟨t3, o3⟩, t4, o4⟩ := hfs
        obtain ⟨c0, c1, c2, c3, c4, rfl⟩ : ∃ c0 c1 c2 c3 c4, cs = [c0, c1, c2, c3, c4] := by
          match cs, hlen with
          | [c0, c1, c2, c3, c4], _ => exact ⟨c0, c1, c2, c3, c4, rfl⟩
        have g := mapM_all h1
        rw [hfl] at g
        obtain ⟨y0, g0⟩ := g f0 (by simp)
        obtain ⟨y1, g1⟩ := g f1 (by simp)
        obtain ⟨y2, g2⟩ := g f2 (by simp)
        obtain ⟨y3, g3⟩ := g f3 (by simp)
        obtain ⟨y4, g4⟩ := g f4 (by simp)
        rw [t0, o0, cI] at g0
        rw [t1, o1, cI] at g1
        rw [t2, o2, cI] at g2
        rw [t3, o3, cZ] at g3
        rw [t4, o4, cS] at g4
        simp only [List.drop_zero, List.drop_succ_cons, List.take_succ_cons, List.take_zero] at g0 g1 g2 g3 g4
        obtain ⟨k0, rfl, w0⟩ := trod_int hI g0
        obtain ⟨k1, rfl, w1⟩ := trod_int hI g1
        obtain ⟨k2, rfl, w2⟩ := trod_int hI g2
        obtain ⟨s3, rfl, w3⟩ := trod_str hZ g3
        have hkids : ∃ ks, VR w (M0 w) [] (.sl 5 (encs ks)) c4 := by
          rcases trod_sl hS g4 with rfl | ⟨a, len, cap, f', hf, rfl, hl, hc, hel⟩
          · exact ⟨[], none, 0, [], rfl, ⟨by simp, by simp [maxLen], by simp, rfl⟩, rfl⟩
          · have hex : ∀ i, ∃ p : List Value × N, i < len → w.cells? base (a.add (i * 5)) 5 = some p.1 ∧ VRs w (M0 w) [] (nc p.2) p.1 := fun i => by
              by_cases hi : i < len
              · obtain ⟨cs, y, q1, q2⟩ := hel i hi
                rw [cT] at q1
                obtain ⟨n, hn⟩ := ih f' (by omega) cs y q2
                exact ⟨(cs, n), fun _ => ⟨q1, hn⟩⟩
              · exact ⟨([], N0), fun h => absurd h hi⟩
            obtain ⟨g, hg⟩ := Classical.axiomOfChoice hex
            have hus : ((List.range len).map fun i => Value.agg (g i).1.toArray).length = len := by simp
            have hsz : ∀ u ∈ (List.range len).map (fun i => Value.agg (g i).1.toArray), u.cells.size = 5 := fun u hu => by
              obtain ⟨i, hi, rfl⟩ := List.mem_map.1 hu
              have := VRs_length (hg i (List.mem_range.1 hi)).2
              simpa [Value.cells] using this
            refine ⟨(List.range len).map fun i => (g i).2, some a, cap, (List.range len).map fun i => Value.agg (g i).1.toArray, ?_, ⟨by rw [hus]; exact hl, hc, hsz, ?_⟩, by rw [hus]⟩
            · rw [encs_map, List.map_map]
              have key : ∀ l : List Nat, (∀ i ∈ l, i < len) → VRs w (M0 w) [] (l.map (enc ∘ fun i => (g i).2)) (l.map fun i => Value.agg (g i).1.toArray) := by
                intro l
                induction l with
                | nil => intro _; rfl
                | cons i r ihr => intro hl; exact ⟨_, _, rfl, vr_agg (hg i (hl i (by simp))).2, ihr fun j hj => hl j (by simp [hj])⟩
              exact key _ fun i hi => List.mem_range.1 hi
            · by_cases h0 : len = 0
              · subst h0; exact .inl rfl
              · have hspot : a.spot = none := by
                  have hq := cells_get (hg 0 (by omega)).1
                  have hv := VRs_length (hg 0 (by omega)).2
                  have hc0 := hq.2 0 ((g 0).1[0]'(by simp at hv; omega)) (by rw [List.getElem?_eq_getElem])
                  have := World.cell?_spot hc0
                  by_cases ha : a.spot = none
                  · exact ha
                  · exfalso
                    revert this
                    unfold Addr.add
                    cases hs : a.spot with
                    | none => exact absurd hs ha
                    | some z => simp [hs]
                refine .inr ⟨hspot, fun j v hj => ?_⟩
                obtain ⟨i, q, u, r1, r2, r3⟩ := flat_index hsz hj
                have hi := (List.getElem?_eq_some_iff.1 r1).1
                rw [hus] at hi
                rw [List.getElem?_map, List.getElem?_range hi] at r1
                simp only [Option.map_some, Option.some.injEq] at r1
                subst r1
                simp only [Value.cells] at r2
                obtain ⟨z1, z2⟩ := hg i hi
                have hcell := (cells_get z1).2 q v r2
                rw [addr_add' hspot, addr_add] at hcell
                have hone : v.oneCell' = true := VRs_one z2 (nc_leaf _) v (List.mem_of_getElem? r2)
                have he : a.off + j = a.off + i * 5 + q := by omega
                rw [he]
                exact ⟨hcell, v, hcell, hone⟩
        obtain ⟨ks, hks⟩ := hkids
        exact ⟨.mk k0 k1 k2 s3.data.toList ks, _, _, rfl, ⟨rfl, w0⟩, _, _, rfl, ⟨rfl, w1⟩, _, _, rfl, ⟨rfl, w2⟩, _, _, rfl, ⟨by simp [N.text], by simpa [N.text] using w3⟩, _, _, rfl, hks, rfl⟩
      · cases h
end
end Go.V
