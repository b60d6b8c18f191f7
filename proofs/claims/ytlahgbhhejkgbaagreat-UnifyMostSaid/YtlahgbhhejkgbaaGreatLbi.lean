/- Texts of this proof, joined. -/
import Derived.Test.YtlahgbhhejkgbaaGreatLay
import Derived.Lib.SliceRun
import Derived.Test.YtlahgbhhejkgbaaGreatLai
import Derived.Lib.Join

/-
 The value logic: a slice that is compared with nil; a copy of a slice.
-/
namespace Go.V
open Go Go.RowKit
set_option linter.unusedVariables false
set_option linter.unusedSimpArgs false

def nlq (t : Nat) (x : Opd) (Q : VE → AF → List Ent → Prop) : VE → AF → List Ent → Prop
 | .nrm, af, H => ∃ n es, gt af x = .sl n es ∧ ∀ b : Bool, (b = true → es = []) → Q .nrm (put af (some t) (.bool b)) H
 | e, af, H => Q e af H
section
variable {P : Program} {n m : Nat} {Q : VE → AF → List Ent → Prop} {af : AF} {H : List Ent} {ops : Array Oper}
theorem qxh : ∀ {l : List Oper} {gl : List GI} {g : GI}, cL P ops n l = some (gl ++ [g]) → ∃ r o, l = r ++ [o] ∧ cL P ops n r = some gl ∧ cGI P ops n o = some g
 | [], gl, g, h => by simp [cL] at h
 | o :: r, gl, g, h => by
   simp only [cL] at h
   split at h
   ·rename_i a l' ha hl
    simp only [Option.some.injEq] at h
    cases gl with
    | nil =>
      simp only [List.nil_append, List.cons.injEq] at h
      obtain ⟨rfl, rfl⟩ := h
      cases r with
      | nil => exact ⟨[], o, rfl, rfl, ha⟩
      | cons o2 r2 =>
        simp only [cL] at hl
        split at hl <;> simp at hl
    | cons b gl' =>
      simp only [List.cons_append, List.cons.injEq] at h
      obtain ⟨rfl, rfl⟩ := h
      obtain ⟨r', o', rfl, h1, h2⟩ := qxh hl
      exact ⟨o :: r', o', rfl, by simp only [cL, ha, h1], h2⟩
   ·cases h
theorem qv6 {t : TypeId} (h : eqT P t = .slice) : ∃ u, P.underlying t = some (.slice u) := by
 unfold eqT at h
 split at h
 case h_3 u hu => exact ⟨u, hu⟩
 case h_6 => (repeat' split at h) <;> simp at h
 all_goals cases h
theorem qbkk {o : Oper} {x : Opd} (h : cI P o = some (.v (.bin .eql .slice x (.c .nils)))) : ∃ t xo yo yt, o.op = .binOp .eql t xo yo yt ∧ cO xo = some x ∧ cO yo = some (.c .nils) ∧ eqT P t = .slice := by
 unfold cI at h
 split at h
 case h_11 op t xo yo yt ho =>
  split at h
  ·rename_i a b ha hb
   split at h
   ·cases h
   ·simp only [Option.some.injEq, I.v.injEq, IV.bin.injEq] at h
    obtain ⟨rfl, h2, rfl, rfl⟩ := h
    exact ⟨t, xo, yo, yt, ho, ha, hb, h2⟩
  ·cases h
 all_goals exfalso
 all_goals first | (simp [Option.map_eq_some_iff] at h; done) | ((repeat' split at h) <;> simp [Option.map_eq_some_iff] at h; done) | skip
 unfold qyh at h
 (repeat' split at h) <;> simp [Option.map_eq_some_iff] at h
theorem qxf {l : List GI} {t : Nat} {x : Opd} (h : runL P (nlq t x Q) l af H) : VI P none n m (.reg false (l ++ [⟨none, some t, .v (.bin .eql .slice x (.c .nils))⟩])) Q af H := by
 intro c hc
 cases c <;> simp only [qb6] at hc
 case region id ops draw =>
  split at hc
  ·rename_i l' hl
   cases draw with
   | true =>
     rw [if_pos rfl] at hc
     split at hc
     ·obtain ⟨x, _, hx⟩ := Option.map_eq_some_iff.1 hc
      cases hx
     ·cases hc
   | false =>
     rw [if_neg (by simp)] at hc
     simp only [Option.some.injEq, IC.reg.injEq] at hc
     obtain ⟨_, rfl⟩ := hc
     obtain ⟨r, o, hops, h1, h2⟩ := qxh hl
     unfold cGI at h2
     split at h2
     case h_2 => cases h2
     rename_i g i hg hi
     split at h2
     case isFalse => cases h2
     rename_i hd
     simp only [Option.some.injEq, GI.mk.injEq] at h2
     obtain ⟨rfl, hdst, rfl⟩ := h2
     have hgd : o.guard = none := by
      cases hq : o.guard with
      | none => rfl
      | some p => rw [hq] at hg; obtain ⟨j, b⟩ := p; simp only [cG] at hg; split at hg <;> simp at hg
     intro w M G a hst hr
     refine wpIn_region_list ?_
     rw [hops]
     refine qde _ a w ?_
     refine qdm (n := n) (m := m) r l af H w M G a h1 hst hr h fun e a' w' hp => ?_
     obtain ⟨ve, af', M', G', H', h1, h2, h3, h4, h5⟩ := hp
     cases ve with
     | nrm =>
       have h2 : e = .normal := h2
       subst h2
       obtain ⟨k, es, hx, hQ⟩ := h1
       obtain ⟨ty, xo, yo, yt, ho, hxo, hyo, hty⟩ := qbkk hi
       obtain ⟨u, hu⟩ := qv6 hty
       have hvx := qh hxo h5
       have hvy : VR w' M' G' .nils (a'.eval yo) := qh hyo h5
       rw [hx] at hvx
       obtain ⟨ad, cap, us, hus, hsl, hxv⟩ := hvx
       have hvy : a'.eval yo = .slice none 0 0 := hvy
       have hrun : (o.semAt (fw none).round a'.eval).run P w' = .ok (.value (.bool ad.isNone)) w' := by
        show (Oper.semAt none a'.eval o).run P w' = _
        rw [Oper.semAt_none]
        simp only [execOp, ho, hxv, hvy, Sem.run_bind, qo (u := .slice ad us.length cap) (v := .slice none 0 0) (by simp) (by simp), Lib.run_eql_slice_nil w' ty u ad us.length cap 0 0 hu, Result.andThen_ok, Sem.run_pure]
       have hw : Region.wanted o (yielded ops a'.tmps) = true := by simp [Region.wanted, hgd]
       show wpListIn (fw none) 0 P ops _ [o] a' w'
       simp only [wpListIn]
       rw [if_pos hw]
       refine ⟨fun _ _ => trivial, ?_⟩
       rw [hrun]
       refine ⟨.nrm, _, M', G', H', hQ ad.isNone fun hb => ?_, rfl, h3, h4, ?_⟩
       ·cases ad with
        | some _ => cases hb
        | none =>
          obtain ⟨q1, _, _, q4⟩ := hsl
          simp only at q4
          have hl := qd hus
          cases es with
          | nil => rfl
          | cons _ _ => rw [List.length_cons] at hl; omega
       ·have := h5.put (v := .bool ad.isNone) (x := .bool ad.isNone) rfl hd
        rw [hdst] at this
        rw [hdst]
        exact this
     | ext i => have h2 : e = .exit i := h2; subst h2; exact ⟨.ext i, af', M', G', H', h1, rfl, h3, h4, h5⟩
     | gto l => have h2 : e = .goto l := h2; subst h2; exact ⟨.gto l, af', M', G', H', h1, rfl, h3, h4, h5⟩
     | ret => have h2 : e = .ret := h2; subst h2; exact ⟨.ret, af', M', G', H', h1, rfl, h3, h4, h5⟩
     | pan v => obtain ⟨x, rfl, hx⟩ := h2; exact ⟨.pan v, af', M', G', H', h1, ⟨x, rfl, hx⟩, h3, h4, h5⟩
  ·exfalso; split at hc <;> simp at hc
 all_goals (exfalso; (repeat' split at hc) <;> simp at hc)
theorem q0w {w : World} {M : Nat → Nat → Prop} {G : List Gh} {x : Value} (k : Nat) (h : VR w M G .nils x) : VR w M G (.lit k []) x := by
 have h : x = .slice none 0 0 := h
 subst h
 exact ⟨none, [], rfl, ⟨Nat.le_refl _, Nat.zero_le _, (by simp), rfl⟩, rfl⟩
theorem qtu {f : FuncId} {args : List AV} {k : Nat} {Q' : List Ent → VO → Prop} {Q : List Ent → VO → Prop} (h : VCalls P f H args Q') (h1 : ∀ H' o, Q' H' o → Q H' o ∨ (o = .val .nils ∧ Q H' (.val (.lit k [])))) : VCalls P f H args Q := by
 refine ⟨h.1, fun w M G vs hst hv => (h.2 w M G vs hst hv).mono fun e w' he => ?_⟩
 cases e with
 | returned x =>
   obtain ⟨M', G', H', v, q1, q2, q3, q4⟩ := he
   rcases h1 _ _ q1 with q | ⟨hv, q⟩
   ·exact ⟨M', G', H', v, q, q2, q3, q4⟩
   ·simp only [VO.val.injEq] at hv
    subst hv
    exact ⟨M', G', H', _, q, q2, q3, q0w k q4⟩
 | panicked ch =>
   obtain ⟨M', G', H', v, x, q1, q2, q3, q4, rfl⟩ := he
   rcases h1 _ _ q1 with q | ⟨hv, q⟩
   ·exact ⟨M', G', H', v, x, q, q2, q3, q4, rfl⟩
   ·cases hv
 | outgrown => exact he.elim
end
section
variable {P : Program} {fr : Option Nat} {n m : Nat} {a : IC} {Q : VE → AF → List Ent → Prop} {af : AF} {H : List Ent} {w : World} {M : Nat → Nat → Prop} {G : List Gh}
theorem qvv {S : Type} {Inv : S → Prop} {st : S → AF × List Ent} (hat : At S Inv st m af H) (h : ∀ s, Inv s → VI P fr n m a Q (st s).1 (st s).2) : VI P fr n m a Q af H := by
 obtain ⟨s, h1, h2⟩ := hat
 exact qub (h s h1) h2
end
theorem q9m {t : Nat} {x : Opd} {Q : VE → AF → List Ent → Prop} {af : AF} {H : List Ent} : nlq t x Q .nrm af H = ∃ n es, gt af x = .sl n es ∧ ∀ b : Bool, (b = true → es = []) → Q .nrm (put af (some t) (.bool b)) H := rfl
attribute [go_sem] q9m


theorem qol {P : Program} {f : FuncId} {H : List Ent} {args : List AV} {r : AV} (hok : okF P f = true)
 (h : ∀ (w : World) (M : Nat → Nat → Prop) (G : List Gh) (vs : List Value), St w M G H → VRs w M G args vs → Calls P f vs.toArray w fun e w' => ∃ x, e = .returned x ∧ Below w.heap.size w w' ∧ VR w' M G r x) :
 VCalls P f H args fun H' o => H' = H ∧ o = .val r := by
 refine ⟨hok, fun w M G vs hst hv => callsIn_wide.2 ((h w M G vs hst hv).mono ?_)⟩
 rintro e w' ⟨x, rfl, hb, hr⟩
 exact ⟨M, G, H, r, ⟨rfl, rfl⟩, ql6 hst hb.os hb.tape hb.output hb.size hb.block (fun _ _ h => h) (fun _ _ h => .inl h),
  qqz hst hb.size hb.block (fun _ _ h => h) (fun _ _ h => .inl h), hr⟩

theorem qp8 (k : Nat) : ∀ ls : List (List UInt8), AV.bds k (ls.map AV.str) = true
 | [] => rfl
 | l :: ls => qp8 k ls
theorem q00 (σ : Nat → Nat) (ls : List (List UInt8)) : AV.rens σ (ls.map AV.str) = ls.map AV.str := qr (m := 0) (fun i hi => by omega) _ (qp8 0 ls)
theorem q3a (ls : List (List UInt8)) : (ls.map AV.str).length = ls.length := by simp
attribute [go_sem] qp8 q00 q3a
/-! ### Results as they are -/
def rawR (l : List (RV × Co)) : List (RV × Co) := l.map fun p => (p.1, .id)
section
variable {P : Program} {w : World} {M : Nat → Nat → Prop} {G : List Gh} {n m : Nat} {af : AF} {H : List Ent} {a : Act}
theorem qje (hst : St w M G H) (hr : RelF w M G n af a) : ∀ {rs : List ResultVar} {ts : List TypeId} {l : List (RV × Co)} {K : List AV → Prop}, cRes P rs ts = some l → (qda af H (rawR l)).bnd K →
 ∃ vs xs, K vs ∧ VRs w M G vs xs ∧ (rs.mapM (m := Sem) fun | .tmp t => pure (a.tmps.getD t undef) | .cell q t => do loadVar t (← asAddr (a.tmps.getD q undef))).run P w = .ok xs w
 | [], ts, l, K, hc, h => by
   simp only [cRes, Option.some.injEq] at hc; subst hc
   exact ⟨[], [], h, rfl, rfl⟩
 | .tmp t :: r, ts, l, K, hc, h => by
   simp only [cRes] at hc
   split at hc
   ·rename_i l' hl
    simp only [Option.some.injEq] at hc; subst hc
    simp only [rawR, List.map_cons, qda, quh] at h
    rw [qbf] at h
    obtain ⟨vs, xs, h1, h2, h3⟩ := qje hst hr hl h
    refine ⟨_, _, h1, ⟨_, _, rfl, hr.rd t, h2⟩, ?_⟩
    simp only [List.mapM_cons, Sem.run_bind, Sem.run_pure, Result.andThen_ok, h3]
   ·cases hc
 | .cell q t :: r, ts, l, K, hc, h => by
   simp only [cRes] at hc
   split at hc
   ·rename_i g k l' hg hk hl
    simp only [Option.some.injEq] at hc; subst hc
    have hld : ∃ v : AV, (ldv g k H (get af.tm q)).bnd (fun u => u = v) ∧ ((qda af H (rawR l')).map fun l => v :: l).bnd K := by
     simp only [rawR, List.map_cons, qda, quh] at h
     split at h
     ·rename_i v hv; exact ⟨v, by rw [hv]; rfl, h⟩
     ·rename_i p v hv; exact ⟨v, by rw [hv]; exact ⟨h.1, rfl⟩, h.2⟩
     ·rename_i p p' v hv; exact ⟨v, by rw [hv]; exact ⟨h.1, h.2.1, rfl⟩, h.2.2⟩
     ·exact h.elim
    obtain ⟨v, hv, h⟩ := hld
    rw [qbf] at h
    obtain ⟨vs, xs, h1, h2, h3⟩ := qje hst hr hl h
    obtain ⟨u, x, q1, q2, q3⟩ := qkj (P := P) (t := t) hst hg hk (hr.rd q) hv
    subst q1
    have hsp : (do loadVar t (← asAddr (a.tmps.getD q undef)) : Sem Value).run P w = .ok x w := by
     have hrd := hr.rd q
     cases hp : get af.tm q <;> rw [hp] at hv hrd <;> simp only [ldv, Rs.bnd] at hv
     ·obtain ⟨g', _, hx⟩ := hrd
      rw [hx] at q3 ⊢
      rw [q9] at q3
      simp only [Sem.run_bind, asAddr, Sem.run_pure, Result.andThen_ok]; exact q3
     ·obtain ⟨ad, cap, us, _, hsl, _, hx⟩ := hrd
      rw [hx] at q3 ⊢
      rw [q9] at q3
      simp only [Sem.run_bind, asAddr, Sem.run_pure, Result.andThen_ok]; exact q3
     ·obtain ⟨g', _, hx⟩ := hrd
      rw [hx] at q3 ⊢
      rw [q9] at q3
      simp only [Sem.run_bind, asAddr, Sem.run_pure, Result.andThen_ok]; exact q3
    refine ⟨_, _, h1, ⟨_, _, rfl, q2, h2⟩, ?_⟩
    simp only [Sem.run_bind] at hsp
    simp only [List.mapM_cons, Sem.run_bind, hsp, Result.andThen_ok, h3, Sem.run_pure]
   ·cases hc

theorem qjs {fn : Func} {l : List (RV × Co)} {K : List AV → Prop} (hst : St w M G H) (hr : RelF w M G n af a) (hc : cRes P fn.results.toList fn.resultTypes.toList = some l) (h : (qda af H (rawR l)).bnd K) :
 ∃ vs x, K vs ∧ VR w M G (one vs) x ∧ (results fn a.tmps).run P w = .ok x w := by
 obtain ⟨vs, xs, h1, h2, h3⟩ := qje hst hr hc h
 have hm : (fn.results.mapM (m := Sem) fun | .tmp t => pure (a.tmps.getD t undef) | .cell q t => do loadVar t (← asAddr (a.tmps.getD q undef))).run P w = .ok xs.toArray w := by
  rw [← Array.toArray_toList (xs := fn.results)]
  rw [List.mapM_toArray]
  simp only [Sem.run_map, h3]
  rfl
 have hl := qd h2
 refine ⟨vs, (if h : xs.toArray.size = 1 then xs.toArray[0] else .tuple xs.toArray), h1, ?_, ?_⟩
 ·match vs, h2 with
  | [], h2 => simp only [VRs] at h2; subst h2; exact ⟨[], by simp, rfl⟩
  | [v], h2 =>
    obtain ⟨x, r, rfl, h4, h5⟩ := h2
    simp only [VRs] at h5; subst h5
    exact h4
  | v :: v' :: r, h2 =>
    have : xs.toArray.size ≠ 1 := by simp at hl ⊢; omega
    rw [dif_neg this]
    exact ⟨xs, rfl, h2⟩
 ·simp only [results, Sem.run_bind]
  erw [hm]
  simp only [Result.andThen_ok, Sem.run_pure]
end
section
variable {P : Program} {f : FuncId} {n k : Nat} {ic : IC} {rs : List (RV × Co)} {H : List Ent} {args : List AV} {Q : List Ent → VO → Prop}
theorem qli (hc : cFun P f = some (n, ic, rs)) (k : Nat) (hk : H.length ≤ k) (hl : args.length ≤ n) (h : VI P none n H.length ic (retq k (rawR rs) Q) ⟨qbw 0 args, []⟩ H) : VCalls P f H args Q := by
 obtain ⟨fn, c, hf, hb, hn, hcode, hres, hok⟩ := qdo hc
 subst hn
 refine ⟨hok, fun w M G vs hst hv => callsIn_of_wp_marks hf hb trivial ?_⟩
 have hvl := qd hv
 have hrel : RelF w M G fn.ntmps ⟨qbw 0 args, []⟩ { tmps := vs.toArray ++ Array.replicate (fn.ntmps - vs.toArray.size) undef, defers := [] } := by
  refine ⟨by simp; omega, rfl, fun t => ?_⟩
  simp only [qb0, Nat.zero_le, if_true, Nat.sub_zero]
  by_cases ht : t < args.length
  ·obtain ⟨x, hx, hr⟩ := qbt hv ht
   have : (vs.toArray ++ Array.replicate (fn.ntmps - vs.toArray.size) undef).getD t undef = x := by
    rw [Array.getD_eq_getD_getElem?, Array.getElem?_append_left (by simp; omega)]
    simp [hx]
   rw [this]; exact hr
  ·have : args.getD t .junk = .junk := by rw [List.getD_eq_getElem?_getD, List.getElem?_eq_none (by omega)]; rfl
   rw [this]; trivial
 have hwp := h c hcode w M G _ hst hrel
 have hfw : fw none = Fence.wide := rfl
 rw [hfw] at hwp
 refine wpIn_mono hwp fun e a' w' hp => ?_
 obtain ⟨ve, af', M', G', H', h1, h2, h3, h4, h5⟩ := hp
 have hlen : G.length = H.length := hst.len
 -- the marks
 have leave : ∀ (l : List AD) (ds : List Deferred) (H₁ : List Ent) (G₁ : List Gh) (w₁ : World) (mode : FrameMode) (K : List Ent → Prop), mode ≠ .run → DR w₁ M' G₁ l ds → ExtM H.length w M G w₁ M' G₁ → St w₁ M' G₁ H₁ → (∀ t, VR w₁ M' G₁ (get af'.tm t) (a'.tmps.getD t undef)) → dlq l H₁ K →
  (∀ (H₂ : List Ent) (G₂ : List Gh) (w₂ : World), K H₂ → ExtM H.length w M G w₂ M' G₂ → Ext w₁ M' G₁ w₂ M' G₂ → St w₂ M' G₂ H₂ → (∀ t, VR w₂ M' G₂ (get af'.tm t) (a'.tmps.getD t undef)) → LeavesIn Fence.wide 0 P fn a'.tmps (Out Q w M G) [] mode w₂) →
  LeavesInM Fence.wide 0 P fn a'.tmps (Out Q w M G) ds mode w₁ := by
  intro l
  induction l with
  | nil =>
    intro ds H₁ G₁ w₁ mode K hmo hd he hs hv hq hK
    simp only [DR] at hd; subst hd
    exact hK H₁ G₁ w₁ hq he (Ext.refl _ _ _) hs hv
  | cons d l ih =>
    intro ds H₁ G₁ w₁ mode K hmo hd he hs hv hq hK
    cases d with
    | dfr f args => exact hq.elim
    | mark i =>
      obtain ⟨g, r, rfl, hg, hd⟩ := hd
      simp only [dlq] at hq
      split at hq
      ·rename_i d as hen
       obtain ⟨G₂, q1, q2, q3⟩ := qq4 hs hg (qxe hen)
       refine ⟨hmo, .inl ⟨g.cap, _, rfl, run_takeDeferred q1, ?_⟩⟩
       exact ih r _ G₂ _ mode K hmo (qfy q3.core q3.le hd) (he.trans q3.toM) q2 (fun t => (hv t).ext q3) hq fun H₂ G₃ w₂ r1 r2 r3 r4 r5 => hK H₂ G₃ w₂ r1 r2 (q3.trans r3) r4 r5
      ·exact hq.elim
 have done : ∀ (hq : dlq af'.dl H' (retk k (rawR rs) Q af')), LeavesInM Fence.wide 0 P fn a'.tmps (Out Q w M G) a'.defers .returning w' := fun hq => by
  refine leave af'.dl a'.defers H' G' w' .returning _ (by simp) h5.defers h3 h4 h5.rd hq fun H₂ G₂ w₂ q1 q2 q3 q4 q5 => ?_
  obtain ⟨us, x, s1, s2, s3⟩ := qjs (n := fn.ntmps) (af := ⟨af'.tm, []⟩) (a := { tmps := a'.tmps, defers := [] }) q4 ⟨h5.size, rfl, q5⟩ hres (by rw [qfg (l' := af'.dl)]; exact q1)
  obtain ⟨G'', r1, r2, r3, r4⟩ := qei (m := H.length) q4 s1 hk
  exact ⟨x, s3, M', G'', _, _, r3, (hlen ▸ (q2.trans r1)).toExt, r2, r4 _ _ s1.2.2.1 s2⟩
 cases ve with
 | nrm => have h2 : e = .normal := h2; subst h2; exact done h1
 | ret => have h2 : e = .ret := h2; subst h2; exact done h1
 | pan v =>
   obtain ⟨x, rfl, hx⟩ := h2
   refine leave af'.dl a'.defers H' G' w' _ _ (by simp) h5.defers h3 h4 h5.rd h1 fun H₂ G₂ w₂ q1 q2 q3 q4 q5 => ?_
   obtain ⟨G'', r1, r2, r3, r4⟩ := qei (m := H.length) q4 q1 hk
   exact ⟨M', G'', _, _, x, r3, (hlen ▸ (q2.trans r1)).toExt, r2, r4 _ _ q1.2.2.1 (hx.ext q3), rfl⟩
 | ext i => exact h1.elim
 | gto l => exact h1.elim

end
attribute [go_sem] rawR
end Go.V
