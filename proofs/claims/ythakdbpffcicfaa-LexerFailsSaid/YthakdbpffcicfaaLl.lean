
/- the lexer's statements: the step -/
import Derived.Test.YthakdbpffcicfaaRows
import Derived.Test.YthakdbpffcicfaaLk
import Derived.Test.YthakdbpffcicfaaVw
namespace Go.Proofs.Ythakdbpffcicfaa
open Go Go.RowKit Go.V Go.ChangeShapes Go.WideShapes Go.ChangeAt
set_option linter.unusedVariables false
set_option linter.unusedSimpArgs false

theorem own : ownKnob Try.prog.godebug = none := by kernel_rfl
theorem laidOut : laidOutB Try.prog = true := by kernel_rfl
def LT : List TypeId := [9, 3, 32, 23]
theorem hLT : LT.all (plain1 Try.prog LT) = true := by kernel_rfl
section
variable {H : Type} {enc' : TypeId × Value → H} {W W' : World} {base : Nat} {v : Value} {d : DataW H} {p : List MemPlace} {sp : Nat → Bool}
theorem arg_str (hok : Value.okWide Try.prog W .any base 9 v) (h : DataW.Trod enc' Try.prog W 0 (fun _ => true) true 9 v d p) : ∃ s, VR W (MM W) [] (.str s) v := by
  obtain ⟨f, cs, h1, h2⟩ := vr_arg hLT (by decide) hok h
  obtain ⟨l, rfl⟩ := tc_str Try.underlying9 h1
  rw [elA_str Try.underlying9] at h2
  exact ⟨l, h2⟩
theorem tc_tok {f : Nat} {ds : List AV} (h : TC Try.prog f 32 ds) : ∃ t : T, elA Try.prog 32 ds = encT t := by
  obtain ⟨f', rfl, hl, h⟩ := tc_st Try.underlying32 h
  rw [show Try.prog.cellsOf 32 = 4 by kernel_rfl] at hl
  match ds, hl with
  | [a, b, c, e], _ =>
    have h0 := h (3, 0) (by decide)
    have h1 := h (3, 1) (by decide)
    have h2 := h (3, 2) (by decide)
    have h3 := h (9, 3) (by decide)
    simp only [show Try.prog.cellsOf 3 = 1 by kernel_rfl, show Try.prog.cellsOf 9 = 1 by kernel_rfl, List.drop_zero, List.drop_succ_cons, List.take_succ_cons, List.take_zero] at h0 h1 h2 h3
    obtain ⟨n0, h0⟩ := tc_int Try.underlying3 h0
    obtain ⟨n1, h1⟩ := tc_int Try.underlying3 h1
    obtain ⟨n2, h2⟩ := tc_int Try.underlying3 h2
    obtain ⟨n3, h3⟩ := tc_str Try.underlying9 h3
    cases h0; cases h1; cases h2; cases h3
    exact ⟨⟨n0, n1, n2, n3⟩, elA_st Try.underlying32 _⟩
instance : Inhabited T := ⟨T0⟩
theorem arg_toks (hok : Value.okWide Try.prog W .any base 23 v) (h : DataW.Trod enc' Try.prog W 0 (fun _ => true) true 23 v d p) : ∃ l, VR W (MM W) [] (.sl 4 (encTs l)) v := by
  obtain ⟨f, cs, h1, h2⟩ := vr_arg hLT (by decide) hok h
  obtain ⟨f', es, rfl, rfl, he⟩ := tc_sl Try.underlying23 h1
  obtain ⟨l, rfl⟩ := tc_list he fun ds hd => tc_tok hd
  rw [elA_sl Try.underlying23, show Try.prog.cellsOf 32 = 4 by kernel_rfl] at h2
  exact ⟨l, h2⟩
theorem stay_str (h : DataW.Trod enc' Try.prog W 0 (fun _ => true) true 9 v d p) (hlt : ∀ x ∈ p, x.block < W.heap.size) (hb : Below W.heap.size W W') (hsp : ∀ x ∈ p, sp x.block = true) : DataW.Trod enc' Try.prog W' 0 sp true 9 v d p :=
  WideElems.Trod_stays laidOut (show Try.prog.readableRec 9 = true by kernel_rfl) (of_decide_eq_true (by kernel_rfl)) h (fun x hx => hb.same (hlt x hx)) hsp
theorem stay_toks (h : DataW.Trod enc' Try.prog W 0 (fun _ => true) true 23 v d p) (hlt : ∀ x ∈ p, x.block < W.heap.size) (hb : Below W.heap.size W W') (hsp : ∀ x ∈ p, sp x.block = true) : DataW.Trod enc' Try.prog W' 0 sp true 23 v d p :=
  WideElems.Trod_stays laidOut (show Try.prog.readableRec 23 = true by kernel_rfl) (of_decide_eq_true (by kernel_rfl)) h (fun x hx => hb.same (hlt x hx)) hsp
end

namespace lexerLexesLaw
theorem contract (H : Type) (enc' : TypeId × Value → H) (W : World) (base : Nat) (args : Array Value) (ds gs : List (DataW H)) (before : List MemPlace)
    (hval : ∀ (j : Nat) t v, Try.f3.params[j]? = some t → args[j]? = some v → Value.okWide Try.prog W .any base t v)
    (hW : DataW.Whole enc' Try.prog Try.f3.params.toList Rows.lexerLexesSpec.vars false W args.toList ds gs before) :
    Calls Try.prog 3 args W fun e W' => ∃ v, e = .returned v ∧ Rows.lexerLexesSpec.post enc' Try.prog Try.f3 false true false false W args v W' := by
  have hW' := hW
  obtain ⟨p, q, hA0, hV, rfl, hfz, hnd⟩ := hW
  have hA : DataW.TrodAll enc' Try.prog W 0 (fun _ => true) true Try.f3.params.toList args.toList ds p := hA0
  rw [Try.params3] at hA hval
  obtain ⟨v0, vs0, d0, ds0, p0, q0, hargs0, rfl, rfl, h0, r0⟩ := trodAll_cons hA
  obtain ⟨rfl, rfl, rfl⟩ := trodAll_nil r0
  obtain rfl : args = #[v0] := by cases args; simp_all
  obtain ⟨rfl, rfl⟩ := trodVars_none hV
  obtain ⟨n0, hn0⟩ := arg_str (hval 0 9 v0 rfl rfl) h0
  clear hA0
  simp only [List.append_nil] at hW'
  have hc := (law04_LexerLexes n0).1.2 W (MM W) [] [v0] (stM W) ⟨v0, [], rfl, hn0, rfl⟩
  refine (callsIn_wide.1 hc).mono fun e W' he => ?_
  cases e with
  | outgrown => exact he.elim
  | panicked c => obtain ⟨M', G', H', v, x, ⟨_, q1⟩, _⟩ := he; cases q1
  | returned x =>
    obtain ⟨M', G', H', v, ⟨_, q1⟩, q2, q3, q4⟩ := he
    cases q1
    simp only [VR] at q4
    subst q4
    have hb := belowM q2
    have hlt : ∀ x ∈ p0 ++ [], x.block < W.heap.size := fun x hx => by have := hW'.lt x (by simpa using hx); exact this
    exact ⟨_, rfl, post_below (pa := p0 ++ []) (pv := []) hW' (fun _ _ _ => trodAll_cons_mk (shut_bool Try.underlying4 _) trodAll_mk0) (fun sp hsp => trodAll_cons_mk (stay_str h0 (fun x hx => hlt x (by simp [hx])) hb (fun x hx => hsp x (by simp [hx]))) trodAll_mk0) (fun _ _ => rfl) (by simp) hb
      (ok_one (by kernel_rfl) rfl (okWide_bool_mk Try.underlying4 _))⟩

set_option maxRecDepth 100000 in
theorem lifted (os : Os) (started : os.Started) (H : Type) (enc' : TypeId × Value → H) :
    ReturnsInHanded {} Try.checked os 3 .any (Rows.lexerLexesSpec.pre6 enc' Try.prog Try.f3 Rows.lexerLexesRow.domain false) (Rows.lexerLexesSpec.post enc' Try.prog Try.f3 false true false false) := by
  refine returnsInHanded_of_change (C := Try.checked) own started (by kernel_rfl) Try.func3
    (ChangeSpec.witness6 (enc := enc') (C := Try.checked) false ⟨#[], #[(.string ⟨#[]⟩)], []⟩ 12 (by kernel_rfl) (by kernel_rfl) (by kernel_rfl) (by kernel_rfl)) ?_
  intro W base args ds gs before hval hW _ _
  exact contract H enc' W base args ds gs before hval hW

theorem over : Rows.lexerLexesRow.holds Try.pinned (OpenSpec.ofChange Rows.lexerLexesSpec) :=
  OpenClaim.holds_of_wide 3 Try.f3 rfl rfl rfl rfl rfl rfl rfl ⟨rfl, rfl, rfl, rfl, rfl⟩ rfl rfl rfl rfl rfl (by kernel_rfl) Try.func3 (by kernel_rfl)
    (of_decide_eq_true (by kernel_rfl)) (by unfold Func.isWrapper; first | (rw [if_pos (by decide +kernel)]; kernel_rfl) | (rw [if_neg (by decide +kernel)]; exact ⟨rfl, rfl⟩))
    (fun os started H enc' _ => lifted os started H enc')
end lexerLexesLaw
/-- The statement. -/
theorem lexerLexes_said : Rows.LexerLexesSaid := lexerLexesLaw.over


namespace lexerTextsLaw
theorem contract (H : Type) (enc' : TypeId × Value → H) (W : World) (base : Nat) (args : Array Value) (ds gs : List (DataW H)) (before : List MemPlace)
    (hval : ∀ (j : Nat) t v, Try.f4.params[j]? = some t → args[j]? = some v → Value.okWide Try.prog W .any base t v)
    (hW : DataW.Whole enc' Try.prog Try.f4.params.toList Rows.lexerTextsSpec.vars false W args.toList ds gs before) :
    Calls Try.prog 4 args W fun e W' => ∃ v, e = .returned v ∧ Rows.lexerTextsSpec.post enc' Try.prog Try.f4 false true false false W args v W' := by
  have hW' := hW
  obtain ⟨p, q, hA0, hV, rfl, hfz, hnd⟩ := hW
  have hA : DataW.TrodAll enc' Try.prog W 0 (fun _ => true) true Try.f4.params.toList args.toList ds p := hA0
  rw [Try.params4] at hA hval
  obtain ⟨v0, vs0, d0, ds0, p0, q0, hargs0, rfl, rfl, h0, r0⟩ := trodAll_cons hA
  obtain ⟨v1, vs1, d1, ds1, p1, q1, hargs1, rfl, rfl, h1, r1⟩ := trodAll_cons r0
  subst hargs1
  obtain ⟨rfl, rfl, rfl⟩ := trodAll_nil r1
  obtain rfl : args = #[v0, v1] := by cases args; simp_all
  obtain ⟨rfl, rfl⟩ := trodVars_none hV
  obtain ⟨n0, hn0⟩ := arg_toks (hval 0 23 v0 rfl rfl) h0
  obtain ⟨n1, hn1⟩ := arg_toks (hval 1 23 v1 rfl rfl) h1
  clear hA0
  simp only [List.append_nil] at hW'
  have hc := (law04_LexerTexts n0 n1).1.2 W (MM W) [] [v0, v1] (stM W) ⟨v0, [v1], rfl, hn0, ⟨v1, [], rfl, hn1, rfl⟩⟩
  refine (callsIn_wide.1 hc).mono fun e W' he => ?_
  cases e with
  | outgrown => exact he.elim
  | panicked c => obtain ⟨M', G', H', v, x, ⟨_, q1⟩, _⟩ := he; cases q1
  | returned x =>
    obtain ⟨M', G', H', v, ⟨_, q1⟩, q2, q3, q4⟩ := he
    cases q1
    simp only [VR] at q4
    subst q4
    have hb := belowM q2
    have hlt : ∀ x ∈ p0 ++ (p1 ++ []), x.block < W.heap.size := fun x hx => by have := hW'.lt x (by simpa using hx); exact this
    exact ⟨_, rfl, post_below (pa := p0 ++ (p1 ++ [])) (pv := []) hW' (fun _ _ _ => trodAll_cons_mk (shut_bool Try.underlying4 _) trodAll_mk0) (fun sp hsp => trodAll_cons_mk (stay_toks h0 (fun x hx => hlt x (by simp [hx])) hb (fun x hx => hsp x (by simp [hx]))) (trodAll_cons_mk (stay_toks h1 (fun x hx => hlt x (by simp [hx])) hb (fun x hx => hsp x (by simp [hx]))) trodAll_mk0)) (fun _ _ => rfl) (by simp) hb
      (ok_one (by kernel_rfl) rfl (okWide_bool_mk Try.underlying4 _))⟩

set_option maxRecDepth 100000 in
theorem lifted (os : Os) (started : os.Started) (H : Type) (enc' : TypeId × Value → H) :
    ReturnsInHanded {} Try.checked os 4 .any (Rows.lexerTextsSpec.pre6 enc' Try.prog Try.f4 Rows.lexerTextsRow.domain false) (Rows.lexerTextsSpec.post enc' Try.prog Try.f4 false true false false) := by
  refine returnsInHanded_of_change (C := Try.checked) own started (by kernel_rfl) Try.func4
    (ChangeSpec.witness6 (enc := enc') (C := Try.checked) false ⟨#[], #[(.slice none 0 0), (.slice none 0 0)], []⟩ 12 (by kernel_rfl) (by kernel_rfl) (by kernel_rfl) (by kernel_rfl)) ?_
  intro W base args ds gs before hval hW _ _
  exact contract H enc' W base args ds gs before hval hW

theorem over : Rows.lexerTextsRow.holds Try.pinned (OpenSpec.ofChange Rows.lexerTextsSpec) :=
  OpenClaim.holds_of_wide 4 Try.f4 rfl rfl rfl rfl rfl rfl rfl ⟨rfl, rfl, rfl, rfl, rfl⟩ rfl rfl rfl rfl rfl (by kernel_rfl) Try.func4 (by kernel_rfl)
    (of_decide_eq_true (by kernel_rfl)) (by unfold Func.isWrapper; first | (rw [if_pos (by decide +kernel)]; kernel_rfl) | (rw [if_neg (by decide +kernel)]; exact ⟨rfl, rfl⟩))
    (fun os started H enc' _ => lifted os started H enc')
end lexerTextsLaw
/-- The statement. -/
theorem lexerTexts_said : Rows.LexerTextsSaid := lexerTextsLaw.over

end Go.Proofs.Ythakdbpffcicfaa
