/- A text of this proof. -/
import Derived.Test.YtlmcofjcpadmiaaGreatBaj

/-
 The value logic, part s: calls and rounds that drop nothing; states that grow.
-/
namespace Go.V
open Go Go.RowKit
set_option linter.unusedVariables false
set_option linter.unusedSimpArgs false

def q1q (rs : List (RV × Co)) (Q : List Ent → VO → Prop) (af : AF) (H : List Ent) : Prop :=
 (qfd af H rs).bnd fun l => Q H (.val (one l))
def panw (Q : List Ent → VO → Prop) (v : AV) (H : List Ent) : Prop := Q H (.pan v)
def retw (rs : List (RV × Co)) (Q : List Ent → VO → Prop) : VE → AF → List Ent → Prop
 | .nrm, af, H | .ret, af, H => dlq af.dl H (q1q rs Q af)
 | .pan v, af, H => dlq af.dl H (panw Q v)
 | _, _, _ => False

section
variable {P : Program} {f : FuncId} {n k : Nat} {ic : IC} {rs : List (RV × Co)} {H : List Ent} {args : List AV} {Q : List Ent → VO → Prop}
theorem qr2 (hc : cFun P f = some (n, ic, rs)) (hl : args.length ≤ n) (h : VI P none n H.length ic (retw rs Q) ⟨qdh 0 args, []⟩ H) : VCalls P f H args Q := by
 obtain ⟨fn, c, hf, hb, hn, hcode, hres, hok⟩ := qjl hc
 subst hn
 refine ⟨hok, fun w M G vs hst hv => callsIn_of_wp_marks hf hb trivial ?_⟩
 have hvl := qh hv
 have hrel : RelF w M G fn.ntmps ⟨qdh 0 args, []⟩ { tmps := vs.toArray ++ Array.replicate (fn.ntmps - vs.toArray.size) undef, defers := [] } := by
  refine ⟨by simp; omega, rfl, fun t => ?_⟩
  simp only [qd5, Nat.zero_le, if_true, Nat.sub_zero]
  by_cases ht : t < args.length
  ·obtain ⟨x, hx, hr⟩ := qdd hv ht
   have : (vs.toArray ++ Array.replicate (fn.ntmps - vs.toArray.size) undef).getD t undef = x := by
    rw [Array.getD_eq_getD_getElem?, Array.getElem?_append_left (by simp; omega)]
    simp [hx]
   rw [this]; exact hr
  ·have : args.getD t .junk = .junk := by rw [List.getD_eq_getElem?_getD, List.getElem?_eq_none (by omega)]; rfl
   rw [this]; trivial
 have hwp := h c hcode w M G _ hst hrel
 have hfw : fw none = Fence.wide := rfl
 rw [hfw] at hwp
 refine wpIn_mono hwp fun e a' w' hp => ?_
 obtain ⟨ve, af', M', G', H', h1, h2, h3, h4, h5⟩ := hp
 have hlen : G.length = H.length := hst.len
 -- the marks
 have leave : ∀ (l : List AD) (ds : List Deferred) (H₁ : List Ent) (G₁ : List Gh) (w₁ : World) (mode : FrameMode) (K : List Ent → Prop), mode ≠ .run → DR w₁ M' G₁ l ds → ExtM H.length w M G w₁ M' G₁ → St w₁ M' G₁ H₁ → (∀ t, VR w₁ M' G₁ (get af'.tm t) (a'.tmps.getD t undef)) → dlq l H₁ K →
  (∀ (H₂ : List Ent) (G₂ : List Gh) (w₂ : World), K H₂ → ExtM H.length w M G w₂ M' G₂ → Ext w₁ M' G₁ w₂ M' G₂ → St w₂ M' G₂ H₂ → (∀ t, VR w₂ M' G₂ (get af'.tm t) (a'.tmps.getD t undef)) → LeavesIn Fence.wide 0 P fn a'.tmps (Out Q w M G) [] mode w₂) →
  LeavesInM Fence.wide 0 P fn a'.tmps (Out Q w M G) ds mode w₁ := by
  intro l
  induction l with
  | nil =>
    intro ds H₁ G₁ w₁ mode K hmo hd he hs hv hq hK
    simp only [DR] at hd; subst hd
    exact hK H₁ G₁ w₁ hq he (Ext.refl _ _ _) hs hv
  | cons d l ih =>
    intro ds H₁ G₁ w₁ mode K hmo hd he hs hv hq hK
    cases d with
    | dfr f args => exact hq.elim
    | mark i =>
      obtain ⟨g, r, rfl, hg, hd⟩ := hd
      simp only [dlq] at hq
      split at hq
      ·rename_i d as hen
       obtain ⟨G₂, q1, q2, q3⟩ := qu2 hs hg (qig hen)
       refine ⟨hmo, .inl ⟨g.cap, _, rfl, run_takeDeferred q1, ?_⟩⟩
       exact ih r _ G₂ _ mode K hmo (qhq q3.core q3.le hd) (he.trans q3.toM) q2 (fun t => (hv t).ext q3) hq fun H₂ G₃ w₂ r1 r2 r3 r4 r5 => hK H₂ G₃ w₂ r1 r2 (q3.trans r3) r4 r5
      ·exact hq.elim
 have done : ∀ (hq : dlq af'.dl H' (q1q rs Q af')), LeavesInM Fence.wide 0 P fn a'.tmps (Out Q w M G) a'.defers .returning w' := fun hq => by
  refine leave af'.dl a'.defers H' G' w' .returning _ (by simp) h5.defers h3 h4 h5.rd hq fun H₂ G₂ w₂ q1 q2 q3 q4 q5 => ?_
  obtain ⟨us, x, s1, s2, s3⟩ := qn0 (n := fn.ntmps) (af := ⟨af'.tm, []⟩) (a := { tmps := a'.tmps, defers := [] }) q4 ⟨h5.size, rfl, q5⟩ hres (by rw [qjk (l' := af'.dl)]; exact q1)
  exact ⟨x, s3, M', G₂, _, _, s1, (hlen ▸ q2).toExt, q4, s2⟩
 cases ve with
 | nrm => have h2 : e = .normal := h2; subst h2; exact done h1
 | ret => have h2 : e = .ret := h2; subst h2; exact done h1
 | pan v =>
   obtain ⟨x, rfl, hx⟩ := h2
   refine leave af'.dl a'.defers H' G' w' _ _ (by simp) h5.defers h3 h4 h5.rd h1 fun H₂ G₂ w₂ q1 q2 q3 q4 q5 => ?_
   exact ⟨M', G₂, _, _, x, q1, (hlen ▸ q2).toExt, q4, hx.ext q3, rfl⟩
 | ext i => exact h1.elim
 | gto l => exact h1.elim

end

def endw (i : Nat) (Q : List Ent → VO → Prop) : VE → AF → List Ent → Prop
 | .nrm, _, H => match ent H i with
   | .lp d as => Q (H.set i (.lp ⟨.ready, none, d.fn, d.ps, d.asn, d.bd⟩ as)) (.val (.bool true))
   | _ => False
 | .ret, _, H => match ent H i with
   | .lp d as => Q (H.set i (.lp ⟨.done, some .ret, d.fn, d.ps, d.asn, d.bd⟩ as)) (.val (.bool false))
   | _ => False
 | .ext id, _, H => match ent H i with
   | .lp d as => Q (H.set i (.lp ⟨.done, some (.exit id), d.fn, d.ps, d.asn, d.bd⟩ as)) (.val (.bool false))
   | _ => False
 | _, _, _ => False
def begw (P : Program) (n m i l : Nat) (b : IC) (Q : List Ent → VO → Prop) : VE → AF → List Ent → Prop
 | .nrm, af, H => match ent H i with
   | .lp ⟨.ready, j, fn, ps, x, y⟩ as => VI P (some l) n m b (endw i Q) af (H.set i (.lp ⟨.busy, j, fn, ps, x, y⟩ as))
   | _ => False
 | _, _, _ => False

section
variable {P : Program} {n i : Nat} {H : List Ent} {a b : IC} {d : LpD} {as args : List AV} {Q : List Ent → VO → Prop}
theorem qvd (hH : ent H i = .lp d as) (hs : d.st = .ready) (hn : as.length = n) (ha : qcl P n d.asn = some a) (hb : qcl P n d.bd = some b) (hl : args.length = d.ps.size) (hp : ∀ p ∈ d.ps.toList, p < n)
 (h : ∀ l, VI P (some l) n H.length a (begw P n H.length i l b Q) ⟨qr3 (qdh 0 as) d.ps.toList args, []⟩ H) : VApp P H (.opq i) args Q := by
 intro w M G x xs hst hf hv
 obtain ⟨g, hg, rfl, _⟩ := hf
 obtain ⟨h1, ⟨vs, h2, h3⟩, h4, h5, h6, h7⟩ := hst.ok i g _ hg (qig hH)
 have hxl := qh hv
 rw [h5]
 refine ⟨{ target := .fn (.yield g.blk) #[], args := #[] ++ xs.toArray }, w, rfl, ?_⟩
 have hinv : (invoke (Target.fn (.yield g.blk) #[]) (#[] ++ xs.toArray)).run P w = (Instr.yield g.blk (#[] ++ xs.toArray)).run P w := by
  simp [invoke]
 have hy := run_yield (P := P) (args := #[] ++ xs.toArray) h2 (by simp; omega)
 simp only [hinv, hy]
 have hlen : G.length = H.length := hst.len
 refine roundIn_of_wpIn trivial ?_
 have hrel := qj1 (qv1 h3 hn) hp hv
 have hz : ((d.ps.zip (#[] ++ xs.toArray)).foldl (fun tmps (t, a) => tmps.setIfInBounds t a) vs.toArray) = (d.ps.toList.zip xs).foldl (fun tmps (t, a) => tmps.setIfInBounds t a) vs.toArray := by
  rw [← Array.foldl_toList]
  simp
 rw [hz]
 have hwp := h g.blk d.asn ha w M G _ hst hrel
 refine wpIn_mono hwp fun e a' w' hp' => ?_
 obtain ⟨ve, af', M', G', H', q1, q2, q3, q4, q5⟩ := hp'
 cases ve <;> try exact q1.elim
 have q2 : e = .normal := q2
 subst q2
 simp only [begw] at q1
 split at q1
 ·rename_i j fn ps x y as' he
  have hi : i < G.length := (List.getElem?_eq_some_iff.1 hg).1
  obtain ⟨g', hg', hcore⟩ := q3.core i g (by omega) hg
  obtain ⟨vs', r1, r2, r3, r4⟩ := qi7 q4 hg' (qig he) ⟨.busy, j, fn, ps, x, y⟩ rfl rfl rfl rfl
  have hblk : g'.blk = g.blk := (qcp hcore).1
  rw [hblk] at r1 r3 r4
  refine ⟨_, run_beginRound r1 rfl, ?_⟩
  have hcode : d.bd = d.bd := rfl
  have hx := q3.trans r4.toM
  have hwb := q1 d.bd hb _ M' G' a' r3 (q5.ext r4)
  refine wpIn_mono hwb fun e₂ a₂ w₂ hp₂ => ?_
  obtain ⟨ve₂, af₂, M₂, G₂, H₂, s1, s2, s3, s4, s5⟩ := hp₂
  have hx2 := hx.trans s3
  have done : ∀ (d' : LpD) (as₂ : List AV) (st : LoopState) (jmp : Option Code) (bv : Bool), ent H₂ i = .lp d' as₂ → (st = if jmp.isNone then .ready else .done) → bv = jmp.isNone → Q (H₂.set i (.lp ⟨st, jmp, d'.fn, d'.ps, d'.asn, d'.bd⟩ as₂)) (.val (.bool bv)) →
   ∃ v w₃, (Instr.endRound g.blk jmp).run P w₂ = .ok v w₃ ∧ Out Q w M G (.returned v) w₃ := by
   intro d' as₂ st jmp bv he₂ hst' hbv hq
   subst hst' hbv
   obtain ⟨g₂, hg₂, hcore₂⟩ := hx2.core i g (by omega) hg
   obtain ⟨vs₂, t1, t2, t3, t4⟩ := qi7 s4 hg₂ (qig he₂) ⟨if jmp.isNone then .ready else .done, jmp, d'.fn, d'.ps, d'.asn, d'.bd⟩ rfl rfl rfl rfl
   have hblk₂ : g₂.blk = g.blk := (qcp hcore₂).1
   rw [hblk₂] at t1 t3 t4
   exact ⟨_, _, run_endRound jmp t1, M₂, G₂, _, _, hq, (hlen ▸ (hx2.trans t4.toM)).toExt, t3, rfl⟩
  cases ve₂ with
  | nrm =>
    have s2 : e₂ = .normal := s2
    subst s2
    simp only [endw] at s1
    split at s1
    ·rename_i d' as₂ he₂
     exact done d' as₂ .ready none true he₂ rfl rfl s1
    ·exact s1.elim
  | ret =>
    have s2 : e₂ = .ret := s2
    subst s2
    simp only [endw] at s1
    split at s1
    ·rename_i d' as₂ he₂
     exact done d' as₂ .done (some .ret) false he₂ rfl rfl s1
    ·exact s1.elim
  | ext id =>
    have s2 : e₂ = .exit id := s2
    subst s2
    simp only [endw] at s1
    split at s1
    ·rename_i d' as₂ he₂
     exact done d' as₂ .done (some (.exit id)) false he₂ rfl rfl s1
    ·exact s1.elim
  | gto l => exact s1.elim
  | pan v => exact s1.elim
 ·exact q1.elim
end


/-! ### States that grow -/
def gro (n k : Nat) (i : Nat) : Nat := if i < n then i else i + k
def grow (n : Nat) (L H1 : List Ent) : List Ent := (H1.take n).map (Ent.ren (gro n L.length)) ++ L ++ (H1.drop n).map (Ent.ren (gro n L.length))

theorem q4g {H0 L : List Ent} : sg' (List.range H0.length) (H0 ++ L).length = gro H0.length L.length := by
 funext i
 unfold sg' gro
 simp only [List.length_range, List.length_append]
 by_cases h : i < H0.length
 ·rw [if_pos h, if_pos h, List.getD_eq_getElem?_getD, List.getElem?_range h]; rfl
 ·rw [if_neg h, if_neg h]; omega
theorem q4u {H0 L H1 : List Ent} (hl : H0.length ≤ H1.length) : qmr (H0 ++ L) (List.range H0.length) H1 = grow H0.length L H1 := by
 unfold qmr grow
 rw [q4g, List.length_range]
 have := qhf ((H1.take H0.length).map (Ent.ren (gro H0.length L.length))) [] (H0 ++ L) (by simp; omega)
 simp only [List.nil_append, List.length_nil, List.length_map, List.length_take, Nat.min_eq_left hl] at this
 rw [List.range_eq_range', this]
 simp

section
variable {P : Program} {H0 L : List Ent} {fv : AV} {f : FuncId} {args : List AV} {Q0 Q : List Ent → VO → Prop}
theorem q9s (h : VApp P H0 fv args Q0) (hb : H0.all (Ent.bd H0.length) = true) (hf : fv.bd H0.length = true) (ha : AV.bds H0.length args = true)
 (hq : ∀ H1 o, Q0 H1 o → H0.length ≤ H1.length ∧ Q (grow H0.length L H1) (o.ren (gro H0.length L.length))) : VApp P (H0 ++ L) fv args Q :=
 q4b (List.range H0.length) h List.nodup_range (qkg hb) hf (by rw [ren_same (m := H0.length) (fun i hi => qh2 hi) _ hf]) ha (by rw [qbg (m := H0.length) (fun i hi => qh2 hi) _ ha]) fun H1 o ho => by
  obtain ⟨h1, h4⟩ := hq H1 o ho
  rw [q4u h1, q4g]
  exact h4
end

theorem qb2o {H : List Ent} {i : Nat} (h : H.length ≤ i) : ent H i = .dead := by
 induction H generalizing i with
 | nil => rfl
 | cons e r ih => cases i with
   | zero => simp at h
   | succ i => exact ih (by simpa using h)
theorem qbi? {H : List Ent} {i : Nat} : ent H i = (H[i]?).getD .dead := by
 induction H generalizing i with
 | nil => rfl
 | cons e r ih => cases i with
   | zero => rfl
   | succ i => rw [List.getElem?_cons_succ]; exact ih
theorem qp9 {H0 L : List Ent} {j : Nat} (h : H0.length ≤ j) : ent (H0 ++ L) j = ent L (j - H0.length) := by
 rw [qbi?, qbi?, List.getElem?_append_right h]
theorem q4p {H : List Ent} {g : Ent → Ent} (hg : g .dead = .dead) {i : Nat} : ent (H.map g) i = g (ent H i) := by
 rw [qbi?, qbi?, List.getElem?_map]
 cases H[i]? <;> simp [hg]
theorem q63 {H : List Ent} {n i : Nat} (h : i < n) : ent (H.take n) i = ent H i := by
 rw [qbi?, qbi?, List.getElem?_take_of_lt h]
theorem q7r {H : List Ent} {n i : Nat} : ent (H.drop n) i = ent H (n + i) := by
 rw [qbi?, qbi?, List.getElem?_drop]
theorem qb7 {H : List Ent} {i : Nat} {e : Ent} (h : i < H.length) : ent (H.set i e) i = e := by
 rw [qbi?, List.getElem?_set_self h]; rfl
theorem qcw {H : List Ent} {i j : Nat} {e : Ent} (h : i ≠ j) : ent (H.set i e) j = ent H j := by
 rw [qbi?, qbi?, List.getElem?_set_ne h]
theorem qv5 (σ : Nat → Nat) : Ent.ren σ .dead = .dead := rfl
section
variable {n : Nat} {L H1 : List Ent}
theorem qqv (h : n ≤ H1.length) : (grow n L H1).length = H1.length + L.length := by
 simp only [grow, List.length_append, List.length_map, List.length_take, List.length_drop]; omega
theorem qcn {i : Nat} (h : n ≤ H1.length) (hi : i < n) : ent (grow n L H1) i = (ent H1 i).ren (gro n L.length) := by
 unfold grow
 rw [List.append_assoc, qd4 (by simp; omega), q4p (qv5 _), q63 hi]
theorem qux {i : Nat} (h : n ≤ H1.length) (hi : n ≤ i) : ent (grow n L H1) (i + L.length) = (ent H1 i).ren (gro n L.length) := by
 unfold grow
 rw [qp9 (by simp; omega), q4p (qv5 _), q7r]
 congr 2
 simp only [List.length_append, List.length_map, List.length_take]; omega
theorem q7s {i : Nat} (h : n ≤ H1.length) : ent (grow n L H1) (gro n L.length i) = (ent H1 i).ren (gro n L.length) := by
 unfold gro
 by_cases hi : i < n
 ·simp only [hi, if_true]; exact qcn h hi
 ·simp only [hi, if_false]; exact qux h (by omega)
theorem qrv {j : Nat} (h : n ≤ H1.length) (hj : j < L.length) : ent (grow n L H1) (n + j) = ent L j := by
 unfold grow
 rw [List.append_assoc, qp9 (by simp; omega)]
 rw [qd4 (by simp only [List.length_map, List.length_take]; omega)]
 congr 1
 simp only [List.length_map, List.length_take]; omega
end

/-! ### What every state obeys -/
theorem q75 {w : World} {M : Nat → Nat → Prop} {G : List Gh} {g : Gh} {e : Ent} (h : qk5 w M G g e) : e.bd G.length = true := by
 cases e with
 | dead => rfl
 | blk cs => obtain ⟨_, ⟨vs, t, _, h3⟩, _⟩ := h; exact qel _ _ h3
 | app n es => obtain ⟨_, ⟨_, _, _, _, _, _, _, h5, _⟩, _⟩ := h; exact qel _ _ h5
 | mrow n es => obtain ⟨_, ⟨_, _, _, _, _, _, _, h5, _⟩, _⟩ := h; exact qel _ _ h5
 | lp d as => obtain ⟨_, ⟨vs, _, h3⟩, _⟩ := h; exact qel _ _ h3
 | cus R => rfl
theorem qb34 {w : World} {M : Nat → Nat → Prop} {G : List Gh} {H : List Ent} (h : St w M G H) : H.all (Ent.bd H.length) = true := by
 rw [List.all_eq_true]
 intro e he
 obtain ⟨i, hi⟩ := List.mem_iff_getElem?.1 he
 have hl := (List.getElem?_eq_some_iff.1 hi).1
 have hl2 : i < G.length := by rw [h.len]; exact hl
 have hg : G[i]? = some (G[i]'hl2) := List.getElem?_eq_getElem hl2
 rw [← h.len]
 exact q75 (h.ok i _ e hg hi)
section
variable {P : Program} {fr : Option Nat} {n m : Nat} {a : IC} {Q : VE → AF → List Ent → Prop} {af : AF} {H : List Ent} {fv : AV} {f : FuncId} {args : List AV} {R : List Ent → VO → Prop}
theorem qb0y (h : H.all (Ent.bd H.length) = true → VI P fr n m a Q af H) : VI P fr n m a Q af H :=
 fun c hc w M G act hst hr => h (qb34 hst) c hc w M G act hst hr
theorem qwj {w : World} {M : Nat → Nat → Prop} {G : List Gh} (hst : St w M G H) {c : Co} : ∀ {cs : List AV} {vs : List Value} {k : Nat}, VRs w M G cs vs → VRs w M G (cs.set k (co H c (cs.getD k .junk))) vs
 | [], vs, k, h => h
 | v :: cs, vs, 0, ⟨x, r, h1, h2, h3⟩ => ⟨x, r, h1, qe4 hst c v x h2, h3⟩
 | v :: cs, vs, k + 1, ⟨x, r, h1, h2, h3⟩ => ⟨x, r, h1, h2, qwj hst h3⟩
theorem qz2 (j k : Nat) (c : Co) {cs : List AV} (he : ent H j = .blk cs) (h : VI P fr n m a Q af (H.set j (.blk (cs.set k (co H c (cs.getD k .junk)))))) : VI P fr n m a Q af H := by
 intro z hz w M G act hst hr
 have hH := qbi he (by simp)
 obtain ⟨g, hg⟩ := hst.lenH hH
 obtain ⟨h1, ⟨vs, t, h2, h3⟩, h4⟩ := hst.ok j g _ hg hH
 have hv : VRs w M G (cs.set k (co H c (cs.getD k .junk))) vs := qwj hst h3
 have hs := qkx (w' := w) (M' := M) (g' := g) (e := .blk (cs.set k (co H c (cs.getD k .junk)))) hst hg rfl (fun _ h => h) (Nat.le_refl _) (fun _ _ _ => rfl) (Le.refl w M) (fun _ _ h => .inl h) (by rw [qft _ _ _ hg]; exact ⟨h1, ⟨vs, t, h2, hv⟩, h4⟩)
 rw [qft _ _ _ hg] at hs
 exact qy9 (h z hz) hs hr ExtM.refl
end
theorem qba8 {rs : List (RV × Co)} {Q : List Ent → VO → Prop} (af : AF) (H : List Ent) : retw rs Q .ret af H = dlq af.dl H (q1q rs Q af) := Eq.trans rfl rfl
theorem q76 {rs : List (RV × Co)} {Q : List Ent → VO → Prop} (af : AF) (H : List Ent) : retw rs Q .nrm af H = dlq af.dl H (q1q rs Q af) := Eq.trans rfl rfl
theorem q5y {rs : List (RV × Co)} {Q : List Ent → VO → Prop} (v : AV) (af : AF) (H : List Ent) : retw rs Q (.pan v) af H = dlq af.dl H (panw Q v) := Eq.trans rfl rfl
theorem q38 {rs : List (RV × Co)} {Q : List Ent → VO → Prop} (af : AF) (H : List Ent) : q1q rs Q af H = ((qfd af H rs).bnd fun l => Q H (.val (one l))) := Eq.trans rfl rfl
attribute [go_sem] qba8 q76 q5y q38 panw begw endw
end Go.V
