/- A text of this proof. -/
import Derived.Test.YtlmcofjcpadmiaaGreatWaj
import Derived.Lib.Join
set_option linter.unusedVariables false
set_option linter.unusedSimpArgs false

/-
 The value logic, part u: functions of which a qn2 says that they add blocks alone.
-/
namespace Go.V
open Go Go.RowKit

theorem qlf {P:Program} {f:FuncId} {H:List Ent} {args:List AV} {r:AV} (hok:okF P f = true)
 (h:∀ (w:World) (M:Nat->Nat->Prop) (G:List Gh) (vs:List Value),St w M G H->VRs w M G args vs->Calls P f vs.toArray w fun e w'=>∃ x,e = .returned x∧Below w.heap.size w w'∧VR w' M G r x) :
 VCalls P f H args fun H' o=>H' = H∧o = .val r:=by
 refine ⟨hok,fun w M G vs hst hv=>callsIn_wide.2 ((h w M G vs hst hv).mono ?_)⟩
 rintro e w' ⟨x,rfl,hb,hr⟩
 exact ⟨M,G,H,r,⟨rfl,rfl⟩,qkp hst hb.os hb.tape hb.output hb.size hb.block (fun _ _ h=>h) (fun _ _ h=>.inl h),
  qm8 hst hb.size hb.block (fun _ _ h=>h) (fun _ _ h=>.inl h),hr⟩

theorem qnt {w:World} {M:Nat->Nat->Prop} {G:List Gh}:∀ {ls:List (List UInt8)} {us:List Value},VRs w M G (ls.map AV.str) us->us = ls.map fun l=>Value.string ⟨l.toArray⟩
 | [],us,h=>h
 | l :: ls, us, h => by
   obtain ⟨v,r,rfl,h1,h2⟩:=h
   rw [List.map_cons,qnt h2,h1.1]
theorem qjm:∀ ls:List (List UInt8),(ls.map fun l=>Value.string ⟨l.toArray⟩).flatMap (·.cells.toList) = ls.map fun l=>Value.string ⟨l.toArray⟩
 | []=>rfl
 | l :: ls=>by rw [List.map_cons,List.flatMap_cons,qjm ls];rfl
theorem qlx (ls:List (List UInt8)):(ls.map fun l=>(⟨l.toArray⟩:ByteArray)).map (·.data.toList) = ls:=by
 rw [List.map_map]
 conv=>rhs;rw [← List.map_id ls]
 exact List.map_congr_left fun l _=>rfl
theorem qmz (k:Nat):∀ ls:List (List UInt8),AV.bds k (ls.map AV.str) = true
 | []=>rfl
 | l :: ls=>qmz k ls
theorem quq (σ:Nat->Nat) (ls:List (List UInt8)):AV.rens σ (ls.map AV.str) = ls.map AV.str:=qx (m:=0) (fun i hi=>by omega) _ (qmz 0 ls)
theorem qyv (ls:List (List UInt8)):(ls.map AV.str).length = ls.length:=by simp
attribute [go_sem] qmz quq qyv
theorem qp3 {P:Program} {f:FuncId} (hok:okF P f = true) (h0:∀ (a:Option Addr) (c:Nat) (sep:ByteArray) (w:World),Calls P f #[.slice a 0 c,.string sep] w fun e w'=>e = .returned (.string ⟨#[]⟩)∧w' = w)
 (h1:∀ (bk o c:Nat) (xs:List ByteArray) (sep:ByteArray) (w:World),(∀ (j:Nat) x,xs[j]? = some x->w.cell? ⟨bk,o + j,none⟩ = some (.string x))->bk < w.heap.size->xs.length≤140737488355328->xs.length≤c →
  (Lib.join (xs.map (·.data.toList)) sep.data.toList).length≤140737488355328->Calls P f #[.slice (some ⟨bk,o,none⟩) xs.length c,.string sep] w fun e w'=>e = .returned (.string ⟨(Lib.join (xs.map (·.data.toList)) sep.data.toList).toArray⟩)∧Below w.heap.size w w')
 {ls:List (List UInt8)} {sep:List UInt8} (hn:ls.length≤140737488355328) (hl:(Lib.join ls sep).length≤140737488355328):qh P f [.sl 1 (ls.map AV.str),.str sep] (.str (Lib.join ls sep)):=by
 refine ⟨(qlf (r:=.str (Lib.join ls sep)) hok fun w M G vs hst hv=>?_),by simp [AV.bds,AV.bd,qjk],rfl⟩
 obtain ⟨v,r,rfl,⟨a,cap,us,h2,h3,rfl⟩,v',r',rfl,⟨rfl,_⟩,hr⟩:=hv
 simp only [VRs] at hr
 subst hr
 have hus:=qnt h2
 have hmx:(Lib.join ls sep).length≤maxLen:=by unfold maxLen;omega
 cases ls with
 | nil =>
   simp only [List.map_nil] at hus
   subst hus
   refine (h0 a cap ⟨sep.toArray⟩ w).mono ?_
   rintro e w' ⟨rfl,rfl⟩
   exact ⟨_,rfl,Below.refl _ _,rfl,hmx⟩
 | cons l ls =>
   obtain ⟨g1,g2,g3,g4⟩:=h3
   cases a with
   | none=>simp only at g4;subst g4;rw [hus] at g1;simp at g1
   | some ad =>
     have hne:us≠[]:=by rw [hus];simp
     obtain ⟨hsp,hm⟩:=g4.resolve_left hne
     obtain ⟨bk,o,sp⟩:=ad
     simp only at hsp hm
     subst hsp
     have hlen:us.length = ((l :: ls).map fun l=>(⟨l.toArray⟩:ByteArray)).length:=by rw [hus];simp
     rw [hus,qjm] at hm
     rw [hlen]
     have key:=h1 bk o cap ((l :: ls).map fun l=>(⟨l.toArray⟩:ByteArray)) ⟨sep.toArray⟩ w (fun j x hx=>by
      rw [List.getElem?_map] at hx
      obtain ⟨q,hq,rfl⟩:=Option.map_eq_some_iff.1 hx
      exact (hm j _ (by rw [List.getElem?_map,hq];rfl)).1) (hst.Mlt bk (o + 0) (hm 0 (.string ⟨l.toArray⟩) rfl).2) (by simpa using hn) (by rw [← hlen];exact g1) (by rw [qlx];exact hl)
     rw [qlx] at key
     refine key.mono ?_
     rintro e w' ⟨rfl,hb⟩
     exact ⟨_,rfl,hb,rfl,hmx⟩
/-! ### Results as they are -/
def rawR (l:List (RV×Co)):List (RV×Co):=l.map fun p=>(p.1,.id)
attribute [go_sem] rawR
theorem qkw {P:Program} {f:FuncId} {args:List AV} {r r':AV} (h:qh P f args r) (e:r = r'):qh P f args r':=e ▸ h
end Go.V
