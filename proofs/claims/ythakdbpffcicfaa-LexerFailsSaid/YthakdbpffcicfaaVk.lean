
/-
  The value logic, part k: every operation that is no call does what its evaluation says.
-/
import Derived.Test.YthakdbpffcicfaaVj
namespace Go.V
open Go Go.RowKit
set_option linter.unusedVariables false
set_option linter.unusedSimpArgs false

section
variable {P : Program} {w : World} {M : Nat → Nat → Prop} {G : List Gh} {H : List Ent} {n : Nat} {af : AF} {a : Act} {k : AV → List Ent → Prop}

theorem do_v {o : Oper} {i : IV} (hst : St w M G H) (h : (evi af H (.v i)).bnd fun p => k p.1 p.2) (hy : ∀ k' : AV → Prop, (evv af H i).bnd k' → Yd P w M G a o k') : Do P w M G a o k := by
  simp only [evi] at h
  rw [bnd_map] at h
  exact Do.of_yd hst (hy _ h) (fun v hv => hv)

theorem cCall_sound {o : Oper} {c : Call} {i : I} (ho : o.op = .call c) (hc : cCall P c o.type = some i) (hni : ∀ f l, i ≠ .call f l) (hst : St w M G H) (hr : RelF w M G n af a) (h : (evi af H i).bnd fun p => k p.1 p.2) : Do P w M G a o k := by
  unfold cCall at hc
  split at hc
  · split at hc
    · simp only [Option.some.injEq] at hc; subst hc; exact absurd rfl (hni _ _)
    · cases hc
  · cases hc
  · rename_i b hb
    split at hc
    · rename_i x t hx ht
      split at hc
      · rename_i y hu hy
        simp only [Option.some.injEq] at hc; subst hc
        exact do_v hst h fun k' h' => yd_len ho hb hx ht (by simpa using hu) hy hr h'
      · rename_i e y hu hy
        simp only [Option.some.injEq] at hc; subst hc
        exact do_v hst h fun k' h' => yd_len ho hb hx ht (by simpa using ⟨e, hu⟩) hy hr h'
      · cases hc
    · rename_i x y ts hx
      split at hc
      · rename_i u v hu hv
        simp only [Option.some.injEq] at hc; subst hc
        exact do_v hst h fun k' h' => yd_mm (big := true) ho hb hx hu hv hr h'
      · cases hc
    · rename_i x y ts hx
      split at hc
      · rename_i u v hu hv
        simp only [Option.some.injEq] at hc; subst hc
        exact do_v hst h fun k' h' => yd_mm (big := false) ho hb hx hu hv hr h'
      · cases hc
    · rename_i x y t t' hx ht
      split at hc
      · rename_i e e' u v he he' hu hv
        split at hc
        · rename_i m bytes z hm hby hz
          split at hc
          · rename_i hcond
            obtain ⟨rfl, hzl, hm0, hza, hb0⟩ := hcond
            simp only [Option.some.injEq] at hc; subst hc
            exact do_app ho hb hx ht he he' hm hby hz hzl hm0 hb0 hu hv hst hr h
          · cases hc
        · cases hc
      · cases hc
    · cases hc

theorem cI_sound {o : Oper} {i : I} (hc : cI P o = some i) (hni : ∀ f l, i ≠ .call f l) (hst : St w M G H) (hr : RelF w M G n af a) (h : (evi af H i).bnd fun p => k p.1 p.2) : Do P w M G a o k := by
  unfold cI at hc
  split at hc
  · rename_i x ho
    obtain ⟨y, hy, rfl⟩ := Option.map_eq_some_iff.1 hc
    exact do_v hst h fun k' h' => yd_mov (.inl ho) hy hr h'
  · rename_i x ho
    obtain ⟨y, hy, rfl⟩ := Option.map_eq_some_iff.1 hc
    exact do_v hst h fun k' h' => yd_mov (.inr ho) hy hr h'
  · rename_i c x y ho
    split at hc
    · rename_i c' x' y' h1 h2 h3
      simp only [Option.some.injEq] at hc; subst hc
      exact do_v hst h fun k' h' => yd_pick ho h1 h2 h3 hr h'
    · cases hc
  · rename_i t ho
    split at hc
    · rename_i z hz
      simp only [Option.some.injEq] at hc; subst hc
      exact do_alo ho hz hst h
    · cases hc
  · rename_i t x ho
    obtain ⟨y, hy, rfl⟩ := Option.map_eq_some_iff.1 hc
    exact do_box ho hy hst hr h
  · rename_i t parts ho
    split at hc
    · rename_i zs l hz hl
      split at hc
      · rename_i hsz
        simp only [Option.some.injEq] at hc; subst hc
        exact do_v hst h fun k' h' => yd_bld ho hz hl hsz hr h'
      · cases hc
    · cases hc
  · rename_i t len parts ho
    split at hc
    · rename_i e he
      split at hc
      · rename_i m l hm hl
        split at hc
        · rename_i hcond
          obtain ⟨h1, h2, h3, h4⟩ := hcond
          simp only [Option.some.injEq] at hc; subst hc
          exact do_bsl ho he hm hl h1 h2 h3 h4 hst hr h
        · cases hc
      · cases hc
    · cases hc
  · rename_i t x ho
    split at hc
    · rename_i g m y hg hm hy
      simp only [Option.some.injEq] at hc; subst hc
      exact do_v hst h fun k' h' => yd_ld ho hg hm hy hst hr h'
    · cases hc
  · rename_i t x z ho
    split at hc
    · rename_i m y u hm hy hu
      split at hc
      · rename_i hm0
        simp only [Option.some.injEq] at hc; subst hc
        exact do_st ho hm hm0 hy hu hst hr h
      · cases hc
    · cases hc
  · rename_i x ho
    obtain ⟨y, hy, rfl⟩ := Option.map_eq_some_iff.1 hc
    exact do_v hst h fun k' h' => yd_nck ho hy hr h'
  · rename_i op t x y yt ho
    split at hc
    · rename_i x' y' hx hy
      split at hc
      · cases hc
      · rename_i hcond
        simp only [Option.some.injEq] at hc; subst hc
        refine do_v hst h fun k' h' => yd_bin ho hx hy (fun hif => ?_) hr h'
        cases hcc : (Region.isConst x || Region.isConst y) with
        | true => rfl
        | false => simp [hif, hcc] at hcond
    · cases hc
  · rename_i op t x ho
    obtain ⟨y, hy, rfl⟩ := Option.map_eq_some_iff.1 hc
    exact do_v hst h fun k' h' => yd_un ho hy hr h'
  · rename_i s d x ho
    split at hc
    · rename_i kk kk' y hs hd hy
      simp only [Option.some.injEq] at hc; subst hc
      exact do_v hst h fun k' h' => yd_cvi ho hs hd hy hr h'
    · rename_i y hs hd hy
      simp only [Option.some.injEq] at hc; subst hc
      exact do_v hst h fun k' h' => yd_cvs ho hs hd hy hr h'
    · cases hc
  · rename_i t x ho
    split at hc
    · cases hc
    · rename_i d y hd hu hy
      simp only [Option.some.injEq] at hc; subst hc
      exact do_v hst h fun k' h' => yd_mki ho hu (fun ms e => hd ms e) hy hst hr h'
    · cases hc
  · rename_i f first caps ho
    split at hc
    · rename_i l m hl hm
      simp only [Option.some.injEq] at hc; subst hc
      exact do_v hst h fun k' h' => yd_mfn ho hl hm hr h'
    · cases hc
  · rename_i t len cap ho
    split at hc
    · rename_i e l c he hl hcc
      split at hc
      · rename_i m bytes z hm hby hz
        split at hc
        · rename_i hcond
          obtain ⟨h1, h2, h3⟩ := hcond
          simp only [Option.some.injEq] at hc; subst hc
          exact do_mks ho he hm hby hz h1 h2 h3 hl hcc hst hr h
        · cases hc
      · cases hc
    · cases hc
  · rename_i t x lo hi mx ho
    split at hc
    · rename_i y l h' hu hy hl hh hmx
      simp only [Option.some.injEq] at hc; subst hc
      have hmx' : mx = none := by
        cases mx with
        | none => rfl
        | some z => simp [cOo] at hmx
      subst hmx'
      exact do_v hst h fun k' h' => yd_sls ho hu hy hl hh hr h'
    · rename_i e y l h' m' hu hy hl hh hmx
      obtain ⟨m, hm, rfl⟩ := Option.map_eq_some_iff.1 hc
      exact do_v hst h fun k' h' => yd_slv ho hu hm hy hl hh hmx hst hr h'
    · cases hc
  · rename_i t x f ho
    split at hc
    · rename_i fs y hu hy
      split at hc
      · rename_i fl hf
        split at hc
        · rename_i m hm
          split at hc
          · rename_i hm0
            simp only [Option.some.injEq] at hc; subst hc
            exact do_v hst h fun k' h' => yd_fad ho hu hf hm hm0 hy hr h'
          · cases hc
        · cases hc
      · cases hc
    · cases hc
  · rename_i t x f ho
    split at hc
    · rename_i fs y hu hy
      split at hc
      · rename_i fl hf
        split at hc
        · rename_i m g hm hg
          simp only [Option.some.injEq] at hc; subst hc
          exact do_v hst h fun k' h' => yd_fld ho hu hf hm hg hy hr h'
        · cases hc
      · cases hc
    · cases hc
  · rename_i t x i ho
    split at hc
    · rename_i e y j hu hy hj
      obtain ⟨m, hm, rfl⟩ := Option.map_eq_some_iff.1 hc
      exact do_v hst h fun k' h' => yd_iad ho hu hm hy hj hr h'
    · rename_i len e y j hu hy hj
      obtain ⟨m, hm, rfl⟩ := Option.map_eq_some_iff.1 hc
      exact do_v hst h fun k' h' => yd_aad ho hu hm hy hj hr h'
    · cases hc
  · rename_i t x i ho
    split at hc
    · rename_i y j hu hy hj
      simp only [Option.some.injEq] at hc; subst hc
      exact do_v hst h fun k' h' => yd_idx ho hu hy hj hr h'
    · rename_i len e y j hu hy hj
      split at hc
      · rename_i m g hm hg
        simp only [Option.some.injEq] at hc; subst hc
        exact do_v hst h fun k' h' => yd_ida ho hu hm hg hy hj hr h'
      · cases hc
    · cases hc
  · rename_i x st t ho
    split at hc
    · cases hc
    · rename_i d z y hd hu hz hy
      simp only [Option.some.injEq] at hc; subst hc
      exact do_v hst h fun k' h' => yd_tya ho hu (fun ms e => hd ms e) hz hy hr h'
    · cases hc
  · rename_i x i ho
    obtain ⟨y, hy, rfl⟩ := Option.map_eq_some_iff.1 hc
    exact do_v hst h fun k' h' => yd_ext ho hy hr h'
  · rename_i c ho
    exact cCall_sound ho hc hni hst hr h
  · cases hc
end
end Go.V
