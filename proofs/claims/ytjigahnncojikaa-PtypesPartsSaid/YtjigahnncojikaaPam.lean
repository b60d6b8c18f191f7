/- A text of this proof. -/
import Derived.Test.YtjigahnncojikaaPae

/-
  Words as data.
-/
namespace Go.V
open Go Go.RowKit
set_option linter.unusedVariables false

structure T where
  kind : Int
  pos : Int
  num : Int
  text : List UInt8
deriving DecidableEq

def T0 : T := ⟨0, 0, 0, []⟩
def encT (t : T) : AV := .agg [.int .i64 t.kind, .int .i64 t.pos, .int .i64 t.num, .str t.text]
def encTs (l : List T) : List AV := l.map encT
theorem encT_fold (t : T) : AV.agg [.int .i64 t.kind, .int .i64 t.pos, .int .i64 t.num, .str t.text] = encT t := rfl
theorem encT_cells (t : T) : (encT t).cells = [.int .i64 t.kind, .int .i64 t.pos, .int .i64 t.num, .str t.text] := rfl
theorem encT_bd (k : Nat) (t : T) : (encT t).bd k = true := rfl
theorem encTs_bd (k : Nat) (l : List T) : AV.bds k (encTs l) = true := by
  rw [encTs, bds_eq, List.all_map, List.all_eq_true]; exact fun x _ => encT_bd k x
theorem encT_ren (σ : Nat → Nat) (t : T) : (encT t).ren σ = encT t := rfl
theorem encTs_ren (σ : Nat → Nat) (l : List T) : AV.rens σ (encTs l) = encTs l := rens_same (m := 0) (fun i hi => by omega) _ (encTs_bd 0 l)
theorem encT_co (H : List Ent) (t : T) : co H (.agg [.id, .id, .id, .id]) (encT t) = encT t := by
  simp only [encT, co_agg, cos_cons, cos_nil, co_id]
theorem encT_rdCo (t : T) : rdCo (.agg [.id, .id, .id, .id]) (encT t) = [] := by
  simp only [encT, rdCo_agg, rdCos_cons, rdCos_nil, rdCo_id, List.append_nil]
theorem encT_agg (t : T) : (encT t).isAgg = true := rfl
theorem encT_notleaf (t : T) : (encT t).leaf = false := rfl
theorem encTs_len (l : List T) : (encTs l).length = l.length := by simp [encTs]
theorem encTs_getT {l : List T} {i : Nat} (h : i < l.length) : (encTs l).getD i .junk = encT (l.getD i T0) := by
  rw [encTs, List.getD_eq_getElem?_getD, List.getElem?_map, List.getElem?_eq_getElem h, List.getD_eq_getElem?_getD, List.getElem?_eq_getElem h]; rfl
theorem getT_mem {l : List T} {i : Nat} (h : i < l.length) : l.getD i T0 ∈ l := by
  rw [List.getD_eq_getElem?_getD, List.getElem?_eq_getElem h]; exact List.getElem_mem h
theorem dropT {l : List T} {i : Nat} (h : i < l.length) : l.drop i = l.getD i T0 :: l.drop (i + 1) := by
  rw [List.drop_eq_getElem_cons h, List.getD_eq_getElem?_getD, List.getElem?_eq_getElem h]; rfl
theorem encTs_one (a : List T) (t : T) : encTs a ++ [encT t] = encTs (a ++ [t]) := by simp [encTs]
theorem encTs_nil : encTs [] = [] := rfl
theorem encTs_take (n : Nat) (l : List T) : (encTs l).take n = encTs (l.take n) := by simp [encTs]
theorem encTs_drop (n : Nat) (l : List T) : (encTs l).drop n = encTs (l.drop n) := by simp [encTs]
theorem encT_fld (b : Bool) (n off : Nat) (t : T) : fldv b n off (encT t) = ldc b n off [.int .i64 t.kind, .int .i64 t.pos, .int .i64 t.num, .str t.text] := rfl
attribute [go_sem] encT_fld encT_rdCo encT_bd encTs_bd encT_ren encTs_ren encT_co encT_agg encT_cells encT_fold encT_notleaf encTs_len encTs_take encTs_drop
end Go.V
