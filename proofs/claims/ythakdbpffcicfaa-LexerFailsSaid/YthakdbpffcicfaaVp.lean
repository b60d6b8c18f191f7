
/-
  The value logic, part p: how an evaluation is run by simp.
-/
import Derived.Test.YthakdbpffcicfaaVo
namespace Go.V
open Go Go.RowKit
set_option linter.unusedVariables false
set_option linter.unusedSimpArgs false

/-- A region that draws, of which no two operations stand in no order but those that read alone. -/
def runE (P : Program) (Q : VE → AF → List Ent → Prop) : List GI → AF → List Ent → Prop
  | [], af, H => Q .nrm af H
  | ⟨none, d, i⟩ :: r, af, H => doD P af H i fun _ v H' => runE P Q r (put af d v) H'
  | ⟨some (t, b), d, i⟩ :: r, af, H => gd (get af.tm t) b (doD P af H i fun _ v H' => runE P Q r (put af d v) H') (runE P Q r (put af d (.tup [])) H)

def noUs : List (GI × List Nat) → Bool
  | [] => true
  | (_, us) :: r => us.isEmpty && noUs r

theorem doD_mono {P : Program} {af : AF} {H : List Ent} {i : I} {K K' : Bool → AV → List Ent → Prop} (h : doD P af H i K) (hk : ∀ t v H', K t v H' → K' t v H') : doD P af H i K' := by
  cases i with
  | call f l =>
    rcases h with ⟨r, h1, h2⟩ | ⟨r, h1, h2⟩
    · exact .inl ⟨r, h1, hk _ _ _ h2⟩
    · exact .inr ⟨r, h1, hk _ _ _ h2⟩
  | _ => exact bnd_mono (fun p hp => hk _ _ _ hp) h

theorem runE_sound {P : Program} {Q : VE → AF → List Ent → Prop} : ∀ {l : List (GI × List Nat)} {acc : List FP} {af : AF} {H : List Ent}, noUs l = true → runE P Q (l.map (·.1)) af H → runD P Q acc l af H
  | [], acc, af, H, _, h => h
  | (⟨none, d, i⟩, us) :: r, acc, af, H, hn, h => by
    simp only [noUs, Bool.and_eq_true, List.isEmpty_iff] at hn
    obtain ⟨rfl, hn⟩ := hn
    simp only [List.map_cons, runE] at h
    simp only [runD]
    exact doD_mono h fun t v H' hk => ⟨trivial, runE_sound hn hk⟩
  | (⟨some (t, b), d, i⟩, us) :: r, acc, af, H, hn, h => by
    simp only [noUs, Bool.and_eq_true, List.isEmpty_iff] at hn
    obtain ⟨rfl, hn⟩ := hn
    simp only [List.map_cons, runE] at h
    simp only [runD]
    unfold gd at h ⊢
    split at h
    · split at h
      · rename_i c hc hb
        rw [if_pos hb]
        exact doD_mono h fun t v H' hk => ⟨trivial, runE_sound hn hk⟩
      · rename_i c hc hb
        rw [if_neg hb]
        exact ⟨trivial, runE_sound hn h⟩
    · exact ⟨trivial, runE_sound hn h⟩
    · exact h

/-- What is behind a guard. -/
inductive Kt where
  | L (r : List GI)
  | E (r : List GI)
  | D (acc : List FP) (us : List Nat) (r : List (GI × List Nat))

def yesK (P : Program) (Q : VE → AF → List Ent → Prop) (d : Option Nat) (i : I) (k : Kt) (af : AF) (H : List Ent) : Prop :=
  match k with
  | .L r => runL P Q (⟨none, d, i⟩ :: r) af H
  | .E r => runE P Q (⟨none, d, i⟩ :: r) af H
  | .D acc us r => runD P Q acc ((⟨none, d, i⟩, us) :: r) af H
def noK (P : Program) (Q : VE → AF → List Ent → Prop) (d : Option Nat) (i : I) (k : Kt) (af : AF) (H : List Ent) : Prop :=
  match k with
  | .L r => runL P Q r (put af d (.tup [])) H
  | .E r => runE P Q r (put af d (.tup [])) H
  | .D acc us r => fpsOK acc us (fpI af H.length false i) ∧ runD P Q (acc ++ [fpI af H.length false i]) r (put af d (.tup [])) H
def gdK (P : Program) (Q : VE → AF → List Ent → Prop) (v : AV) (b : Bool) (d : Option Nat) (i : I) (k : Kt) (af : AF) (H : List Ent) : Prop :=
  gd v b (yesK P Q d i k af H) (noK P Q d i k af H)

section
variable {P : Program} {Q : VE → AF → List Ent → Prop} {d : Option Nat} {i : I} {k : Kt} {af : AF} {H : List Ent}
theorem gdK_tt : gdK P Q (.bool true) true d i k af H = yesK P Q d i k af H := Eq.trans rfl rfl
theorem gdK_tf : gdK P Q (.bool true) false d i k af H = noK P Q d i k af H := Eq.trans rfl rfl
theorem gdK_ft : gdK P Q (.bool false) true d i k af H = noK P Q d i k af H := Eq.trans rfl rfl
theorem gdK_ff : gdK P Q (.bool false) false d i k af H = yesK P Q d i k af H := Eq.trans rfl rfl
theorem gdK_tup (b : Bool) : gdK P Q (.tup []) b d i k af H = noK P Q d i k af H := Eq.trans rfl rfl
theorem yesK_L (r : List GI) : yesK P Q d i (.L r) af H = runL P Q (⟨none, d, i⟩ :: r) af H := Eq.trans rfl rfl
theorem yesK_E (r : List GI) : yesK P Q d i (.E r) af H = runE P Q (⟨none, d, i⟩ :: r) af H := Eq.trans rfl rfl
theorem yesK_D (acc : List FP) (us : List Nat) (r : List (GI × List Nat)) : yesK P Q d i (.D acc us r) af H = runD P Q acc ((⟨none, d, i⟩, us) :: r) af H := Eq.trans rfl rfl
theorem noK_L (r : List GI) : noK P Q d i (.L r) af H = runL P Q r (put af d (.tup [])) H := Eq.trans rfl rfl
theorem noK_E (r : List GI) : noK P Q d i (.E r) af H = runE P Q r (put af d (.tup [])) H := Eq.trans rfl rfl
theorem noK_D (acc : List FP) (us : List Nat) (r : List (GI × List Nat)) : noK P Q d i (.D acc us r) af H = (fpsOK acc us (fpI af H.length false i) ∧ runD P Q (acc ++ [fpI af H.length false i]) r (put af d (.tup [])) H) := Eq.trans rfl rfl
theorem gd_case {p : Prop} [Decidable p] {b : Bool} (h1 : p → gdK P Q (.bool (decide p)) b d i k af H) (h2 : ¬ p → gdK P Q (.bool (decide p)) b d i k af H) : gdK P Q (.bool (decide p)) b d i k af H := by
  by_cases h : p
  · exact h1 h
  · exact h2 h
theorem gd_caseb {c b : Bool} (h1 : c = true → gdK P Q (.bool c) b d i k af H) (h2 : c = false → gdK P Q (.bool c) b d i k af H) : gdK P Q (.bool c) b d i k af H := by
  cases c
  · exact h2 rfl
  · exact h1 rfl
attribute [go_sem] gdK_tt gdK_tf gdK_ft gdK_ff gdK_tup yesK_L yesK_E yesK_D noK_L noK_E noK_D
end

section
variable {P : Program} {Q : VE → AF → List Ent → Prop}
def kvE (P : Program) (Q : VE → AF → List Ent → Prop) (d : Option Nat) (r : List GI) (af : AF) (H : List Ent) (v : AV) : Prop := runE P Q r (put af d v) H
def kpE (P : Program) (Q : VE → AF → List Ent → Prop) (d : Option Nat) (r : List GI) (af : AF) (p : AV × List Ent) : Prop := runE P Q r (put af d p.1) p.2
def ksE (P : Program) (Q : VE → AF → List Ent → Prop) (d : Option Nat) (r : List GI) (af : AF) (H : List Ent) : Prop := runE P Q r (put af d (.tup [])) H
def kcE (P : Program) (Q : VE → AF → List Ent → Prop) (d : Option Nat) (r : List GI) (af : AF) (H : List Ent) (_ : Bool) (v : AV) : Prop := runE P Q r (put af d v) H
theorem kvE_app (d : Option Nat) (r : List GI) (af : AF) (H : List Ent) (v : AV) : kvE P Q d r af H v = runE P Q r (put af d v) H := Eq.trans rfl rfl
theorem kpE_app (d : Option Nat) (r : List GI) (af : AF) (v : AV) (H : List Ent) : kpE P Q d r af (v, H) = runE P Q r (put af d v) H := Eq.trans rfl rfl
theorem ksE_app (d : Option Nat) (r : List GI) (af : AF) (H : List Ent) : ksE P Q d r af H = runE P Q r (put af d (.tup [])) H := Eq.trans rfl rfl
theorem kcE_app (d : Option Nat) (r : List GI) (af : AF) (H : List Ent) (t : Bool) (v : AV) : kcE P Q d r af H t v = runE P Q r (put af d v) H := Eq.trans rfl rfl
theorem runE_nil (af : AF) (H : List Ent) : runE P Q [] af H = Q .nrm af H := Eq.trans rfl rfl
theorem runE_v (d : Option Nat) (i : IV) (r : List GI) (af : AF) (H : List Ent) : runE P Q (⟨none, d, .v i⟩ :: r) af H = (evv af H i).bnd (kvE P Q d r af H) := by
  simp only [runE, doD, evi]; rw [bnd_map]; rfl
theorem runE_box (d : Option Nat) (x : Opd) (r : List GI) (af : AF) (H : List Ent) : runE P Q (⟨none, d, .box x⟩ :: r) af H = (boxv H (gt af x)).bnd (kpE P Q d r af) := Eq.trans rfl rfl
theorem runE_alo (d : Option Nat) (x : List AV) (r : List GI) (af : AF) (H : List Ent) : runE P Q (⟨none, d, .alo x⟩ :: r) af H = runE P Q r (put af d (.ptr H.length 0)) (H ++ [.blk x]) := Eq.trans rfl rfl
theorem runE_st (d : Option Nat) (n : Nat) (c : Co) (a x : Opd) (r : List GI) (af : AF) (H : List Ent) : runE P Q (⟨none, d, .st n c a x⟩ :: r) af H = (stv n c H (gt af x) (gt af a)).bnd (ksE P Q d r af) := by
  simp only [runE, doD, evi]; rw [bnd_map]; rfl
theorem runE_mks (d : Option Nat) (n : Nat) (z : AV) (b : Nat) (l c : Opd) (r : List GI) (af : AF) (H : List Ent) : runE P Q (⟨none, d, .mks n z b l c⟩ :: r) af H = (mksv n z b H (gt af l) (gt af c)).bnd (kpE P Q d r af) := Eq.trans rfl rfl
theorem runE_app (d : Option Nat) (n : Nat) (z : AV) (b : Nat) (c : Co) (x y : Opd) (r : List GI) (af : AF) (H : List Ent) : runE P Q (⟨none, d, .app n z b c x y⟩ :: r) af H = (appv n b H (gt af x) (gt af y)).bnd (kpE P Q d r af) := Eq.trans rfl rfl
theorem runE_call (d : Option Nat) (f : Opd) (l : List (Opd × Co)) (r : List GI) (af : AF) (H : List Ent) : runE P Q (⟨none, d, .call f l⟩ :: r) af H = DApp P H (gt af f) (gco H af l) (kcE P Q d r af H) := Eq.trans rfl rfl
theorem runE_g (t : Nat) (b : Bool) (d : Option Nat) (i : I) (r : List GI) (af : AF) (H : List Ent) : runE P Q (⟨some (t, b), d, i⟩ :: r) af H = gdK P Q (get af.tm t) b d i (.E r) af H := Eq.trans rfl rfl
attribute [go_sem] kvE_app kpE_app ksE_app kcE_app runE_nil runE_v runE_box runE_alo runE_st runE_mks runE_app runE_call runE_g
end

theorem vi_regE {P : Program} {fr : Option Nat} {n m : Nat} {Q : VE → AF → List Ent → Prop} {af : AF} {H : List Ent} {l : List (GI × List Nat)} (hn : noUs l = true) (h : runE P Q (l.map (·.1)) af H) : VI P fr n m (.drw l) Q af H := vi_regD (runE_sound hn h)

section
variable {P : Program} {Q : VE → AF → List Ent → Prop}
/-- What is behind an operation. -/
def kv (P : Program) (Q : VE → AF → List Ent → Prop) (d : Option Nat) (r : List GI) (af : AF) (H : List Ent) (v : AV) : Prop := runL P Q r (put af d v) H
def kp (P : Program) (Q : VE → AF → List Ent → Prop) (d : Option Nat) (r : List GI) (af : AF) (p : AV × List Ent) : Prop := runL P Q r (put af d p.1) p.2
def ks (P : Program) (Q : VE → AF → List Ent → Prop) (d : Option Nat) (r : List GI) (af : AF) (H : List Ent) : Prop := runL P Q r (put af d (.tup [])) H
def kc (P : Program) (Q : VE → AF → List Ent → Prop) (d : Option Nat) (r : List GI) (af : AF) (H : List Ent) (o : VO) : Prop :=
  match o with
  | .val v => runL P Q r (put af d v) H
  | .pan v => Q (.pan v) af H
theorem kv_app (d : Option Nat) (r : List GI) (af : AF) (H : List Ent) (v : AV) : kv P Q d r af H v = runL P Q r (put af d v) H := Eq.trans rfl rfl
theorem kp_app (d : Option Nat) (r : List GI) (af : AF) (v : AV) (H : List Ent) : kp P Q d r af (v, H) = runL P Q r (put af d v) H := Eq.trans rfl rfl
theorem ks_app (d : Option Nat) (r : List GI) (af : AF) (H : List Ent) : ks P Q d r af H = runL P Q r (put af d (.tup [])) H := Eq.trans rfl rfl
theorem kc_val (d : Option Nat) (r : List GI) (af : AF) (H : List Ent) (v : AV) : kc P Q d r af H (.val v) = runL P Q r (put af d v) H := Eq.trans rfl rfl
theorem kc_pan (d : Option Nat) (r : List GI) (af : AF) (H : List Ent) (v : AV) : kc P Q d r af H (.pan v) = Q (.pan v) af H := Eq.trans rfl rfl
theorem runL_nil (af : AF) (H : List Ent) : runL P Q [] af H = Q .nrm af H := Eq.trans rfl rfl
theorem runL_v (d : Option Nat) (i : IV) (r : List GI) (af : AF) (H : List Ent) : runL P Q (⟨none, d, .v i⟩ :: r) af H = (evv af H i).bnd (kv P Q d r af H) := by
  simp only [runL, doI, evi]; rw [bnd_map]; rfl
theorem runL_box (d : Option Nat) (x : Opd) (r : List GI) (af : AF) (H : List Ent) : runL P Q (⟨none, d, .box x⟩ :: r) af H = (boxv H (gt af x)).bnd (kp P Q d r af) := Eq.trans rfl rfl
theorem runL_alo (d : Option Nat) (x : List AV) (r : List GI) (af : AF) (H : List Ent) : runL P Q (⟨none, d, .alo x⟩ :: r) af H = runL P Q r (put af d (.ptr H.length 0)) (H ++ [.blk x]) := Eq.trans rfl rfl
theorem runL_st (d : Option Nat) (n : Nat) (c : Co) (a x : Opd) (r : List GI) (af : AF) (H : List Ent) : runL P Q (⟨none, d, .st n c a x⟩ :: r) af H = (stv n c H (gt af x) (gt af a)).bnd (ks P Q d r af) := by
  simp only [runL, doI, evi]; rw [bnd_map]; rfl
theorem runL_mks (d : Option Nat) (n : Nat) (z : AV) (b : Nat) (l c : Opd) (r : List GI) (af : AF) (H : List Ent) : runL P Q (⟨none, d, .mks n z b l c⟩ :: r) af H = (mksv n z b H (gt af l) (gt af c)).bnd (kp P Q d r af) := Eq.trans rfl rfl
theorem runL_app (d : Option Nat) (n : Nat) (z : AV) (b : Nat) (c : Co) (x y : Opd) (r : List GI) (af : AF) (H : List Ent) : runL P Q (⟨none, d, .app n z b c x y⟩ :: r) af H = (appv n b H (gt af x) (gt af y)).bnd (kp P Q d r af) := Eq.trans rfl rfl
theorem runL_call (d : Option Nat) (f : Opd) (l : List (Opd × Co)) (r : List GI) (af : AF) (H : List Ent) : runL P Q (⟨none, d, .call f l⟩ :: r) af H = VApp P H (gt af f) (gco H af l) (kc P Q d r af) := by
  have : (kc P Q d r af) = (fun H' o => match o with | .val v => runL P Q r (put af d v) H' | .pan v => Q (.pan v) af H') := by
    funext H' o; cases o <;> rfl
  rw [this]; rfl
theorem runL_g (t : Nat) (b : Bool) (d : Option Nat) (i : I) (r : List GI) (af : AF) (H : List Ent) : runL P Q (⟨some (t, b), d, i⟩ :: r) af H = gdK P Q (get af.tm t) b d i (.L r) af H := Eq.trans rfl rfl
end

section
variable {P : Program} {Q : VE → AF → List Ent → Prop}
/-- What is behind an operation that may come in another place. -/
def dv (P : Program) (Q : VE → AF → List Ent → Prop) (acc : List FP) (us : List Nat) (fp : FP) (d : Option Nat) (r : List (GI × List Nat)) (af : AF) (H : List Ent) (v : AV) : Prop := fpsOK acc us fp ∧ runD P Q (acc ++ [fp]) r (put af d v) H
def dp (P : Program) (Q : VE → AF → List Ent → Prop) (acc : List FP) (us : List Nat) (fp : FP) (d : Option Nat) (r : List (GI × List Nat)) (af : AF) (p : AV × List Ent) : Prop := fpsOK acc us fp ∧ runD P Q (acc ++ [fp]) r (put af d p.1) p.2
def ds (P : Program) (Q : VE → AF → List Ent → Prop) (acc : List FP) (us : List Nat) (fp : FP) (d : Option Nat) (r : List (GI × List Nat)) (af : AF) (H : List Ent) : Prop := fpsOK acc us fp ∧ runD P Q (acc ++ [fp]) r (put af d (.tup [])) H
def dc (P : Program) (Q : VE → AF → List Ent → Prop) (acc : List FP) (us rd : List Nat) (d : Option Nat) (r : List (GI × List Nat)) (af : AF) (H : List Ent) (top : Bool) (v : AV) : Prop := fpsOK acc us { rd := rd, top := top } ∧ runD P Q (acc ++ [{ rd := rd, top := top }]) r (put af d v) H
variable (acc : List FP) (us : List Nat)
theorem dv_app (fp : FP) (d : Option Nat) (r : List (GI × List Nat)) (af : AF) (H : List Ent) (v : AV) : dv P Q acc us fp d r af H v = (fpsOK acc us fp ∧ runD P Q (acc ++ [fp]) r (put af d v) H) := Eq.trans rfl rfl
theorem dp_app (fp : FP) (d : Option Nat) (r : List (GI × List Nat)) (af : AF) (v : AV) (H : List Ent) : dp P Q acc us fp d r af (v, H) = (fpsOK acc us fp ∧ runD P Q (acc ++ [fp]) r (put af d v) H) := Eq.trans rfl rfl
theorem ds_app (fp : FP) (d : Option Nat) (r : List (GI × List Nat)) (af : AF) (H : List Ent) : ds P Q acc us fp d r af H = (fpsOK acc us fp ∧ runD P Q (acc ++ [fp]) r (put af d (.tup [])) H) := Eq.trans rfl rfl
theorem dc_app (rd : List Nat) (d : Option Nat) (r : List (GI × List Nat)) (af : AF) (H : List Ent) (top : Bool) (v : AV) : dc P Q acc us rd d r af H top v = (fpsOK acc us { rd := rd, top := top } ∧ runD P Q (acc ++ [{ rd := rd, top := top }]) r (put af d v) H) := Eq.trans rfl rfl
theorem runD_nil (af : AF) (H : List Ent) : runD P Q acc [] af H = Q .nrm af H := Eq.trans rfl rfl
theorem runD_v (d : Option Nat) (i : IV) (r : List (GI × List Nat)) (af : AF) (H : List Ent) : runD P Q acc ((⟨none, d, .v i⟩, us) :: r) af H = (evv af H i).bnd (dv P Q acc us { rd := fpV af i } d r af H) := by
  simp only [runD, doD, evi]; rw [bnd_map]; rfl
theorem runD_box (d : Option Nat) (x : Opd) (r : List (GI × List Nat)) (af : AF) (H : List Ent) : runD P Q acc ((⟨none, d, .box x⟩, us) :: r) af H = (boxv H (gt af x)).bnd (dp P Q acc us { wr := [H.length], al := true } d r af) := Eq.trans rfl rfl
theorem runD_alo (d : Option Nat) (x : List AV) (r : List (GI × List Nat)) (af : AF) (H : List Ent) : runD P Q acc ((⟨none, d, .alo x⟩, us) :: r) af H = (fpsOK acc us { wr := [H.length], al := true } ∧ runD P Q (acc ++ [{ wr := [H.length], al := true }]) r (put af d (.ptr H.length 0)) (H ++ [.blk x])) := Eq.trans rfl rfl
theorem runD_st (d : Option Nat) (n : Nat) (c : Co) (a x : Opd) (r : List (GI × List Nat)) (af : AF) (H : List Ent) : runD P Q acc ((⟨none, d, .st n c a x⟩, us) :: r) af H = (stv n c H (gt af x) (gt af a)).bnd (ds P Q acc us { rd := rdCo c (gt af x), wr := ptrE (gt af a) } d r af) := by
  simp only [runD, doD, evi]; rw [bnd_map]; rfl
theorem runD_mks (d : Option Nat) (n : Nat) (z : AV) (b : Nat) (l c : Opd) (r : List (GI × List Nat)) (af : AF) (H : List Ent) : runD P Q acc ((⟨none, d, .mks n z b l c⟩, us) :: r) af H = (mksv n z b H (gt af l) (gt af c)).bnd (dp P Q acc us { wr := [H.length], al := true } d r af) := Eq.trans rfl rfl
theorem runD_app (d : Option Nat) (n : Nat) (z : AV) (b : Nat) (c : Co) (x y : Opd) (r : List (GI × List Nat)) (af : AF) (H : List Ent) : runD P Q acc ((⟨none, d, .app n z b c x y⟩, us) :: r) af H = (appv n b H (gt af x) (gt af y)).bnd (dp P Q acc us { rd := rowE (gt af y), wr := H.length :: rowE (gt af x), al := true } d r af) := Eq.trans rfl rfl
theorem runD_call (d : Option Nat) (f : Opd) (l : List (Opd × Co)) (r : List (GI × List Nat)) (af : AF) (H : List Ent) : runD P Q acc ((⟨none, d, .call f l⟩, us) :: r) af H = DApp P H (gt af f) (gco H af l) (dc P Q acc us (rdPs af l) d r af H) := Eq.trans rfl rfl
theorem runD_g (t : Nat) (b : Bool) (d : Option Nat) (i : I) (r : List (GI × List Nat)) (af : AF) (H : List Ent) : runD P Q acc ((⟨some (t, b), d, i⟩, us) :: r) af H = gdK P Q (get af.tm t) b d i (.D acc us r) af H := Eq.trans rfl rfl
theorem fpsOK_nil (fp : FP) : fpsOK acc [] fp = True := rfl
theorem fpsOK_cons (j : Nat) (fp : FP) : fpsOK acc (j :: us) fp = (okFP (acc.getD j {}) fp = true ∧ fpsOK acc us fp) := rfl

theorem papp_of {f : FuncId} {args : List AV} {H : List Ent} {r : AV} (h : VPure P f args r) : PApp P H (.fn f [] []) args r := vapp_pure0 h fun _ => ⟨rfl, rfl⟩
theorem dapp_pure {f : FuncId} {args : List AV} {H : List Ent} {r : AV} {K : Bool → AV → Prop} (h : VPure P f args r) (k : K false r) : DApp P H (.fn f [] []) args K := .inr ⟨r, fun H₀ => papp_of h, k⟩
end

/-- A row handed on. -/
def cor (e : Ent) (i len : Nat) : AV :=
  match e with
  | .app n es => if es.length = len then .sl n es else .row i len
  | _ => .row i len
section
variable (H : List Ent)
theorem co_id (v : AV) : co H .id v = v := by unfold co; rfl
theorem co_sl_nils (n : Nat) : co H (.sl n) .nils = .sl n [] := by unfold co; rfl
theorem co_sl_lit (n m : Nat) (es : List AV) : co H (.sl n) (.lit m es) = .sl m es := by unfold co; rfl
theorem co_sl_sl (n m : Nat) (es : List AV) : co H (.sl n) (.sl m es) = .sl m es := by unfold co; rfl
theorem co_sl_row (n i len : Nat) : co H (.sl n) (.row i len) = cor (ent H i) i len := by unfold co cor; rfl
theorem co_agg (l : List Co) (vs : List AV) : co H (.agg l) (.agg vs) = .agg (cos H l vs) := by rw [co]
theorem cos_nil (vs : List AV) : cos H [] vs = vs := by cases vs <;> rw [cos]
theorem cos_cons (c : Co) (l : List Co) (v : AV) (vs : List AV) : cos H (c :: l) (v :: vs) = co H c v :: cos H l vs := by rw [cos]
theorem cor_app (n : Nat) (es : List AV) (i len : Nat) : cor (.app n es) i len = if es.length = len then .sl n es else .row i len := rfl
theorem cor_mrow (n : Nat) (es : List AV) (i len : Nat) : cor (.mrow n es) i len = .row i len := rfl
end

theorem gd_bool (c b : Bool) (A B : Prop) : gd (.bool c) b A B = if c = b then A else B := Eq.trans rfl rfl
theorem gd_dec (p : Prop) [Decidable p] (A B : Prop) : gd (.bool (decide p)) true A B = ((p → A) ∧ (¬ p → B)) := by
  by_cases h : p <;> simp [gd, h]
theorem gd_dec' (p : Prop) [Decidable p] (A B : Prop) : gd (.bool (decide p)) false A B = ((¬ p → A) ∧ (p → B)) := by
  by_cases h : p <;> simp [gd, h]
theorem gd_var (c : Bool) (A B : Prop) : gd (.bool c) true A B = ((c = true → A) ∧ (c = false → B)) := by
  cases c <;> simp [gd]
theorem gd_var' (c : Bool) (A B : Prop) : gd (.bool c) false A B = ((c = false → A) ∧ (c = true → B)) := by
  cases c <;> simp [gd]
theorem gd_tt (A B : Prop) : gd (.bool true) true A B = A := Eq.trans rfl rfl
theorem gd_tf (A B : Prop) : gd (.bool true) false A B = B := Eq.trans rfl rfl
theorem gd_ft (A B : Prop) : gd (.bool false) true A B = B := Eq.trans rfl rfl
theorem gd_ff (A B : Prop) : gd (.bool false) false A B = A := Eq.trans rfl rfl
theorem gd_tup (b : Bool) (A B : Prop) : gd (.tup []) b A B = B := Eq.trans rfl rfl
theorem cnd_bool (c : Bool) (A B : Prop) : cnd (.bool c) A B = ((c = true → A) ∧ (c = false → B)) := Eq.trans rfl rfl
theorem cnd_true (A B : Prop) : cnd (.bool true) A B = A := by simp [cnd]
theorem cnd_false (A B : Prop) : cnd (.bool false) A B = B := by simp [cnd]
theorem cnd_dec (p : Prop) [Decidable p] (A B : Prop) : cnd (.bool (decide p)) A B = ((p → A) ∧ (¬ p → B)) := by
  by_cases h : p <;> simp [cnd, h]

theorem sq_nrm {P : Program} {fr : Option Nat} {n m : Nat} {b : IC} {Q : VE → AF → List Ent → Prop} (af : AF) (H : List Ent) : sq P fr n m b Q .nrm af H = VI P fr n m b Q af H := Eq.trans rfl rfl
theorem sq_ext {P : Program} {fr : Option Nat} {n m : Nat} {b : IC} {Q : VE → AF → List Ent → Prop} (i : Nat) (af : AF) (H : List Ent) : sq P fr n m b Q (.ext i) af H = Q (.ext i) af H := Eq.trans rfl rfl
theorem sq_ret {P : Program} {fr : Option Nat} {n m : Nat} {b : IC} {Q : VE → AF → List Ent → Prop} (af : AF) (H : List Ent) : sq P fr n m b Q .ret af H = Q .ret af H := Eq.trans rfl rfl
theorem sq_pan {P : Program} {fr : Option Nat} {n m : Nat} {b : IC} {Q : VE → AF → List Ent → Prop} (v : AV) (af : AF) (H : List Ent) : sq P fr n m b Q (.pan v) af H = Q (.pan v) af H := Eq.trans rfl rfl
theorem blq_nrm {id : Nat} {Q : VE → AF → List Ent → Prop} (af : AF) (H : List Ent) : blq id Q .nrm af H = Q .nrm af H := Eq.trans rfl rfl
theorem blq_ext {id i : Nat} {Q : VE → AF → List Ent → Prop} (af : AF) (H : List Ent) : blq id Q (.ext i) af H = if i = id then Q .nrm af H else Q (.ext i) af H := Eq.trans rfl rfl
theorem blq_ret {id : Nat} {Q : VE → AF → List Ent → Prop} (af : AF) (H : List Ent) : blq id Q .ret af H = Q .ret af H := Eq.trans rfl rfl
theorem blq_pan {id : Nat} {Q : VE → AF → List Ent → Prop} (v : AV) (af : AF) (H : List Ent) : blq id Q (.pan v) af H = Q (.pan v) af H := Eq.trans rfl rfl
theorem lq_nrm {S : Type} {Inv : S → Prop} {st : S → AF × List Ent} {m : Nat} {Q : VE → AF → List Ent → Prop} (af : AF) (H : List Ent) : lq Inv st m Q .nrm af H = At S Inv st m af H := Eq.trans rfl rfl
theorem lq_ext {S : Type} {Inv : S → Prop} {st : S → AF × List Ent} {m i : Nat} {Q : VE → AF → List Ent → Prop} (af : AF) (H : List Ent) : lq Inv st m Q (.ext i) af H = Q (.ext i) af H := Eq.trans rfl rfl
theorem lq_ret {S : Type} {Inv : S → Prop} {st : S → AF × List Ent} {m : Nat} {Q : VE → AF → List Ent → Prop} (af : AF) (H : List Ent) : lq Inv st m Q .ret af H = Q .ret af H := Eq.trans rfl rfl
theorem lq_pan {S : Type} {Inv : S → Prop} {st : S → AF × List Ent} {m : Nat} {Q : VE → AF → List Ent → Prop} (v : AV) (af : AF) (H : List Ent) : lq Inv st m Q (.pan v) af H = Q (.pan v) af H := Eq.trans rfl rfl
theorem retq_ret {k : Nat} {rs : List (RV × Co)} {Q : List Ent → VO → Prop} (af : AF) (H : List Ent) : retq k rs Q .ret af H = dlq af.dl H (retk k rs Q af) := Eq.trans rfl rfl
theorem retq_nrm {k : Nat} {rs : List (RV × Co)} {Q : List Ent → VO → Prop} (af : AF) (H : List Ent) : retq k rs Q .nrm af H = dlq af.dl H (retk k rs Q af) := Eq.trans rfl rfl
theorem retq_pan {k : Nat} {rs : List (RV × Co)} {Q : List Ent → VO → Prop} (v : AV) (af : AF) (H : List Ent) : retq k rs Q (.pan v) af H = dlq af.dl H (pank k Q v) := Eq.trans rfl rfl
theorem dlq_nil (H : List Ent) (K : List Ent → Prop) : dlq [] H K = K H := Eq.trans rfl rfl
theorem dlq_mark (i : Nat) (l : List AD) (H : List Ent) (K : List Ent → Prop) : dlq (.mark i :: l) H K = (match ent H i with
    | .lp _ _ => dlq l (H.set i .dead) K
    | _ => False) := Eq.trans rfl rfl
theorem retk_app {k : Nat} {rs : List (RV × Co)} {Q : List Ent → VO → Prop} (af : AF) (H : List Ent) : retk k rs Q af H = ((retvs af H rs).bnd fun l => fin k Q H (.val (one l))) := Eq.trans rfl rfl
theorem pank_app {k : Nat} {Q : List Ent → VO → Prop} (v : AV) (H : List Ent) : pank k Q v H = fin k Q H (.pan v) := Eq.trans rfl rfl

theorem rdCo_id (v : AV) : rdCo .id v = [] := by unfold rdCo; rfl
theorem rdCo_sl_row (n i len : Nat) : rdCo (.sl n) (.row i len) = [i] := by unfold rdCo; rfl
theorem rdCo_sl_sl (n m : Nat) (es : List AV) : rdCo (.sl n) (.sl m es) = [] := by unfold rdCo; rfl
theorem rdCo_sl_lit (n m : Nat) (es : List AV) : rdCo (.sl n) (.lit m es) = [] := by unfold rdCo; rfl
theorem rdCo_sl_nils (n : Nat) : rdCo (.sl n) .nils = [] := by unfold rdCo; rfl
theorem rdCo_agg (l : List Co) (vs : List AV) : rdCo (.agg l) (.agg vs) = rdCos l vs := by unfold rdCo; rfl
theorem rdCos_nil (vs : List AV) : rdCos [] vs = [] := by unfold rdCos; rfl
theorem rdCos_cons (c : Co) (l : List Co) (v : AV) (vs : List AV) : rdCos (c :: l) (v :: vs) = rdCo c v ++ rdCos l vs := by rw [rdCos]
attribute [go_sem] dlq_nil dlq_mark retk_app pank_app retq_pan
attribute [go_sem] AV.wf AV.wfs VO.wf
attribute [go_sem] runD_nil runD_v runD_box runD_alo runD_st runD_mks runD_app runD_call runD_g dv_app dp_app ds_app dc_app fpsOK_nil fpsOK_cons fpI fpV rdCo_id rdCo_sl_row rdCo_sl_sl rdCo_sl_lit rdCo_sl_nils rdCo_agg rdCos_nil rdCos_cons rdPs ptrE rowE okFP disj nin
theorem bnd_ret {α : Type} (a : α) (k : α → Prop) : (Rs.ret a).bnd k = k a := Eq.trans rfl rfl
theorem bnd_req {α : Type} (p : Prop) (r : Rs α) (k : α → Prop) : (Rs.req p r).bnd k = (p ∧ r.bnd k) := Eq.trans rfl rfl
theorem bnd_bad {α : Type} (k : α → Prop) : (Rs.bad : Rs α).bnd k = False := Eq.trans rfl rfl
attribute [go_sem] runL_nil runL_v runL_box runL_alo runL_st runL_mks runL_app runL_call runL_g kv_app kp_app ks_app kc_val kc_pan
  gd_tt gd_tf gd_ft gd_ff gd_tup cnd_true cnd_false sq_nrm sq_ext sq_ret sq_pan blq_nrm blq_ext blq_ret blq_pan lq_nrm lq_ext lq_ret lq_pan retq_ret retq_nrm
  co_id co_sl_nils co_sl_lit co_sl_sl co_sl_row co_agg cos_nil cos_cons cor_app cor_mrow
  evv gt get put bnd_ret bnd_req bnd_bad Rs.map ent gco gts gto ldv ldc lde stv stc fadv fldv iadv aadv idxv idav slsv slp slf slvv lenv eqc eqcs fitc fitcs eqv binI binS eqb binv unv mmv extv nckv cviv cvsv tyav pickv spl bldv bslOK mksv appArg appTo appv boxv
  AV.ren AV.rens AV.bd AV.bds Ent.ren Ent.bd AD.ren AD.bd tk Eqk.isIface retvs one fin VO.bd zipArgs entsOK tmOK dlOK sg sg' setAll
theorem isAgg_agg (cs : List AV) : (AV.agg cs).isAgg = true := rfl
theorem isAgg_int (k : IntKind) (n : Int) : (AV.int k n).isAgg = false := rfl
theorem isAgg_str (l : List UInt8) : (AV.str l).isAgg = false := rfl
theorem isAgg_bool (b : Bool) : (AV.bool b).isAgg = false := rfl
theorem isAgg_nilp : AV.nilp.isAgg = false := rfl
theorem isAgg_nilf : AV.nilf.isAgg = false := rfl
theorem isAgg_nili : AV.nili.isAgg = false := rfl
theorem isAgg_nils : AV.nils.isAgg = false := rfl
theorem isAgg_nilm : AV.nilm.isAgg = false := rfl
theorem isAgg_sl (n : Nat) (l : List AV) : (AV.sl n l).isAgg = false := rfl
theorem isAgg_lit (n : Nat) (l : List AV) : (AV.lit n l).isAgg = false := rfl
theorem isAgg_ptr (i o : Nat) : (AV.ptr i o).isAgg = false := rfl
theorem isAgg_row (i o : Nat) : (AV.row i o).isAgg = false := rfl
theorem isAgg_eptr (n : Nat) (l : List AV) (i o : Nat) : (AV.eptr n l i o).isAgg = false := rfl
theorem isAgg_rptr (n k i o : Nat) : (AV.rptr n k i o).isAgg = false := rfl
theorem isAgg_fn (f : FuncId) (a b : List AV) : (AV.fn f a b).isAgg = false := rfl
theorem isAgg_opq (i : Nat) : (AV.opq i).isAgg = false := rfl
theorem isAgg_iface (t : TypeId) (v : AV) : (AV.iface t v).isAgg = false := rfl
theorem isAgg_tup (l : List AV) : (AV.tup l).isAgg = false := rfl
theorem leaf_agg (cs : List AV) : (AV.agg cs).leaf = false := rfl
theorem leaf_tup (cs : List AV) : (AV.tup cs).leaf = false := rfl
theorem leaf_int (k : IntKind) (n : Int) : (AV.int k n).leaf = true := rfl
theorem leaf_str (l : List UInt8) : (AV.str l).leaf = true := rfl
theorem leaf_bool (b : Bool) : (AV.bool b).leaf = true := rfl
theorem leaf_nilp : AV.nilp.leaf = true := rfl
theorem leaf_nilf : AV.nilf.leaf = true := rfl
theorem leaf_nili : AV.nili.leaf = true := rfl
theorem leaf_nils : AV.nils.leaf = true := rfl
theorem leaf_nilm : AV.nilm.leaf = true := rfl
theorem leaf_sl (n : Nat) (l : List AV) : (AV.sl n l).leaf = true := rfl
theorem leaf_lit (n : Nat) (l : List AV) : (AV.lit n l).leaf = true := rfl
theorem leaf_ptr (i o : Nat) : (AV.ptr i o).leaf = true := rfl
theorem leaf_row (i o : Nat) : (AV.row i o).leaf = true := rfl
theorem leaf_eptr (n : Nat) (l : List AV) (i o : Nat) : (AV.eptr n l i o).leaf = true := rfl
theorem leaf_rptr (n k i o : Nat) : (AV.rptr n k i o).leaf = true := rfl
theorem leaf_fn (f : FuncId) (a b : List AV) : (AV.fn f a b).leaf = true := rfl
theorem leaf_opq (i : Nat) : (AV.opq i).leaf = true := rfl
theorem leaf_iface (t : TypeId) (v : AV) : (AV.iface t v).leaf = true := rfl
theorem cells_agg (cs : List AV) : (AV.agg cs).cells = cs := rfl
theorem cells_int (k : IntKind) (n : Int) : (AV.int k n).cells = [.int k n] := rfl
theorem cells_str (l : List UInt8) : (AV.str l).cells = [.str l] := rfl
theorem cells_bool (b : Bool) : (AV.bool b).cells = [.bool b] := rfl
theorem cells_nilp : AV.nilp.cells = [.nilp] := rfl
theorem cells_nilf : AV.nilf.cells = [.nilf] := rfl
theorem cells_nili : AV.nili.cells = [.nili] := rfl
theorem cells_nils : AV.nils.cells = [.nils] := rfl
theorem cells_nilm : AV.nilm.cells = [.nilm] := rfl
theorem cells_sl (n : Nat) (l : List AV) : (AV.sl n l).cells = [.sl n l] := rfl
theorem cells_lit (n : Nat) (l : List AV) : (AV.lit n l).cells = [.lit n l] := rfl
theorem cells_ptr (i o : Nat) : (AV.ptr i o).cells = [.ptr i o] := rfl
theorem cells_row (i o : Nat) : (AV.row i o).cells = [.row i o] := rfl
theorem cells_eptr (n : Nat) (l : List AV) (i o : Nat) : (AV.eptr n l i o).cells = [.eptr n l i o] := rfl
theorem cells_rptr (n k i o : Nat) : (AV.rptr n k i o).cells = [.rptr n k i o] := rfl
theorem cells_fn (f : FuncId) (a b : List AV) : (AV.fn f a b).cells = [.fn f a b] := rfl
theorem cells_opq (i : Nat) : (AV.opq i).cells = [.opq i] := rfl
theorem cells_iface (t : TypeId) (v : AV) : (AV.iface t v).cells = [.iface t v] := rfl
attribute [go_sem] isAgg_agg isAgg_int isAgg_str isAgg_bool isAgg_nilp isAgg_nilf isAgg_nili isAgg_nils isAgg_nilm isAgg_sl isAgg_lit isAgg_ptr isAgg_row isAgg_eptr isAgg_rptr isAgg_fn isAgg_opq isAgg_iface isAgg_tup
  leaf_agg leaf_tup leaf_int leaf_str leaf_bool leaf_nilp leaf_nilf leaf_nili leaf_nils leaf_nilm leaf_sl leaf_lit leaf_ptr leaf_row leaf_eptr leaf_rptr leaf_fn leaf_opq leaf_iface
  cells_agg cells_int cells_str cells_bool cells_nilp cells_nilf cells_nili cells_nils cells_nilm cells_sl cells_lit cells_ptr cells_row cells_eptr cells_rptr cells_fn cells_opq cells_iface
attribute [go_sem] List.length_cons List.length_nil List.nil_append List.cons_append List.append_nil List.getD_cons_zero List.getD_cons_succ List.set_cons_zero List.set_cons_succ List.take_succ_cons List.take_zero List.take_nil List.drop_succ_cons List.drop_zero List.drop_nil
  List.all_cons List.all_nil Bool.and_true Bool.true_and Bool.false_and Bool.and_false true_and and_true false_and and_false true_or or_true or_false false_or and_self or_self not_true_eq_false not_false_eq_true Bool.false_eq_true if_true if_false List.map_cons List.map_nil
  Bool.and_eq_true Int.toNat_natCast Int.natCast_nonneg
end Go.V
