/- Texts of this proof, joined. -/
import Derived.Test.YtlahgbhhejkgbaaKau
import Derived.Test.YtlahgbhhejkgbaaKav
import Derived.Test.YtlahgbhhejkgbaaKas
set_option linter.unusedVariables false
set_option linter.unusedSimpArgs false

/- the reader of terms: copies of rows, what is taken, atoms -/
set_option maxRecDepth 4000
namespace Go.Proofs.Ytlahgbhhejkgbaa
open Go Go.RowKit Go.V

theorem qez (s:List UInt8):ql Try.prog 101 [.str s] (encY (qbx s)):=by
 refine qg c0f (by simp) (by simp only [go_sem]) (qck 0 _) fun hw=>?_
 have hr:=qe9 (s.drop 1)
 cases hp:pfx [63] s with
 | false =>
   repeat' (first | refine vs_ ?_ | ((first | refine vr_ ?_ | fail)<;>(try simp only [hp,go_sem,↓reduceIte])) | ((first | (refine cs_ ?_ ?_<;>intro hc) | refine cj_ ?_ | fail | refine qa (qgj _) fun _=>?_ | refine qa (qh _ _) fun _=>?_)<;>(try refine ev_ ?_)) | with_reducible exact ti_)
   ·rw [qbx,if_pos (by assumption)];rfl
   ·rw [qbx,if_neg (by assumption),hp];rfl
 | true =>
   have hl:=qqz hp
   repeat' (first | refine vs_ ?_ | ((first | refine vr_ ?_ | fail)<;>(try simp only [hp,go_sem,↓reduceIte])) | ((first | (refine cs_ ?_ ?_<;>intro hc) | refine cj_ ?_ | fail | refine qa (qgj _) fun _=>?_ | refine qa (qh _ _) fun _=>?_ | refine qa (qfj _) fun _=>?_)<;>(try refine ev_ ?_)) | with_reducible exact ti_)
   ·rw [qbx,if_pos (by assumption)];rfl
   ·rw [qbx,if_neg (by assumption),if_pos (by assumption),if_pos (by assumption),qv (by omega) (by omega)];rfl
   ·rw [qbx,if_neg (by assumption),if_pos (by assumption),if_neg (by assumption)];rfl

/-! a copy of a row -/
abbrev qo1:FuncId:=75
theorem qr5:VCalls Try.prog qo1 [] [.sl 3 (qk [])] fun H' o=>H' = []∧o = .val (.lit 3 []):=by
 refine qpj (k:=3) (Q':=fun H' o=>H' = []∧(o = .val (.lit 3 [])∨o = .val .nils)) ?_ fun H' o h=>?_
 ·refine qjb c0g 0 (by simp) (by simp) ?_
  unfold k0g
  refine qb8 (qfl ?_)
  (refine ev_ ?_;(try with_reducible exact ti_))
  refine qb8 (qb8 (qrc (l:=[⟨none,some 3,.v (.mov (.t 0))⟩]) (t:=4) (x:=.t 3) ?_))
  (refine ev_ ?_;(try with_reducible exact ti_))
  refine ⟨3,qk [],rfl,fun b hb=>?_⟩
  cases b
  ·repeat' (first | refine vs_ ?_ | ((first | refine vr_ ?_ | (refine cs_ ?_ ?_<;>intro hc) | refine cj_ ?_ | fail)<;>(try refine ev_ ?_)) | with_reducible exact ti_)
  ·repeat' (first | refine vs_ ?_ | ((first | refine vr_ ?_ | (refine cs_ ?_ ?_<;>intro hc) | refine cj_ ?_ | fail)<;>(try refine ev_ ?_)) | with_reducible exact ti_)
 ·rcases h with ⟨h,h1 | h1⟩
  ·exact .inl ⟨h,h1⟩
  ·exact .inr ⟨h1,h,rfl⟩
theorem quf {l:List Ty} (h0:l≠[]) (hl:l.length≤4294967296):VCalls Try.prog qo1 [] [.sl 3 (qk l)] fun H' o=>H' = [.app 3 (qk l)]∧o = .val (.row 0 l.length):=by
 refine qjb c0g 1 (by simp) (by simp) ?_
 unfold k0g
 refine qb8 (qfl ?_)
 (refine ev_ ?_;(try with_reducible exact ti_))
 refine qb8 (qb8 (qrc (l:=[⟨none,some 3,.v (.mov (.t 0))⟩]) (t:=4) (x:=.t 3) ?_))
 (refine ev_ ?_;(try with_reducible exact ti_))
 refine ⟨3,qk l,rfl,fun b hb=>?_⟩
 have hcap:qc3 l.length 48 = True:=eq_true (by unfold qc3;omega)
 have hln:(qk l).length≠0:=by rw [qcx];exact fun h=>h0 (List.length_eq_zero_iff.1 h)
 have hln2:¬ l.length = 0:=fun h=>h0 (List.length_eq_zero_iff.1 h)
 cases b
 ·repeat' (first | refine vs_ ?_ | ((first | refine vr_ ?_ | fail)<;>(try simp only [hln2,hcap,Nat.zero_add,go_sem,↓reduceIte])) | ((first | (refine cs_ ?_ ?_<;>intro hc) | refine cj_ ?_ | fail)<;>(try refine ev_ ?_)) | with_reducible exact ti_)
 ·exact absurd (hb rfl) (fun h=>hln (by rw [h];rfl))
section
variable {l:List Ty} {H:List Ent} {args raws:List AV} {K:Md->AV->List Ent->Prop}
theorem qu6 (hl:l = []) (hq:K .here (.lit 3 []) H) (ha:args = [.sl 3 (qk l)]:=by rfl):DApp Try.prog H (.fn qo1 [] []) args raws K:=by
 subst hl
 subst ha
 refine .inl ⟨_,qh6 ?_,hq⟩
 rw [List.nil_append,List.append_nil]
 refine qfy [] qr5 (by simp) trivial (by simp [AV.bds,AV.bd,qb3]) (by simp only [AV.rens,AV.ren,qc2]) fun H1 o ho=>?_
 obtain ⟨rfl,rfl⟩:=ho
 exact ⟨by simp [qnd,qt],rfl⟩
theorem qwm (h0:l≠[]) (hl:l.length≤4294967296) (hq:K (.grow none (.app 3 (qk l)) l.length) (.row H.length l.length) (H ++ [.app 3 (qk l)])) (hr:raws = [.sl 3 (qk l)]:=by rfl):DApp Try.prog H (.fn qo1 [] []) args raws K:=by
 subst hr
 refine .inr (.inr (.inr (.inl ⟨none,.app 3 (qk l),l.length,⟨fun q hq=>(by cases hq),fun H₀ h0'=>?_⟩,hq⟩)))
 refine qh6 ?_
 rw [List.nil_append,List.append_nil]
 refine qfy [] (quf h0 hl) (by simp) trivial (by simp [AV.bds,AV.bd,qb3]) (by simp only [AV.rens,AV.ren,qc2]) fun H1 o ho=>?_
 obtain ⟨rfl,rfl⟩:=ho
 refine ⟨?_,?_⟩
 ·show H₀ ++ [(Ent.app 3 (qk l)).ren _] = H₀ ++ [_]
  rw [Ent.ren,qc2]
 ·show VO.val (.row (H₀.length + (0 - 0)) _) = _
  simp
end
/-! the reader -/
def rdE (r:Rd):Ent:=.blk [.str r.s,.int .i64 r.lv,.bool r.bad]
attribute [go_sem] rdE cutR badR lvR
theorem q32 {p s:List UInt8} (h:pfx p s = true):p.length≤s.length:=by
 simp only [pfx,decide_eq_true_eq] at h
 have:=congrArg List.length h
 rw [List.length_take] at this
 omega
theorem qjh {r:Rd} {p:List UInt8} (h:pfx p r.s = true):VM Try.prog 74 (rdE r) (rdE (cutR p.length r)) [.ptr 0 0,.str p] (.bool true):=by
 refine qbj c0h 1 (by simp) (by simp) ?_
 have hl:=q32 h
 repeat' (first | refine vs_ ?_ | ((first | refine vr_ ?_ | fail)<;>(try simp only [h,go_sem,↓reduceIte])) | ((first | (refine cs_ ?_ ?_<;>intro hc) | refine cj_ ?_ | fail | refine qa (qh _ _) fun _=>?_)<;>(try refine ev_ ?_)) | with_reducible exact ti_)
theorem ql0 {r:Rd} {p:List UInt8} (h:pfx p r.s = false):VM Try.prog 74 (rdE r) (rdE r) [.ptr 0 0,.str p] (.bool false):=by
 refine qbj c0h 1 (by simp) (by simp) ?_
 repeat' (first | refine vs_ ?_ | ((first | refine vr_ ?_ | fail)<;>(try simp only [h,go_sem,↓reduceIte])) | ((first | (refine cs_ ?_ ?_<;>intro hc) | refine cj_ ?_ | fail | refine qa (qh _ _) fun _=>?_)<;>(try refine ev_ ?_)) | with_reducible exact ti_)
set_option maxRecDepth 4000

theorem qou:∀ {H:List Ent} {i:Nat},H.length≤i->ent H i = .dead
 | [],_,_=>rfl
 | _ :: _,0,h=>absurd h (by simp)
 | _ :: H,i + 1,h=>qou (H:=H) (i:=i) (by simpa using h)
section
variable {P:Program} {f:FuncId} {e e':Ent} {aa args caps rs:List AV} {r:AV} {H:List Ent} {Kk:Md->AV->List Ent->Prop}
theorem q3o (i:Nat) (h:VM P f e e' aa r) (hq:Kk (.meth i e e') r (H.set i e')) (hn:e≠.dead:=by intro h;cases h) (hb:e.bd 0 = true:=by rfl) (hb':e'.bd 0 = true:=by rfl) (he:ent H i = e:=by rfl) (hr:r.bd 0 = true:=by first | rfl | simp [go_sem])
 (e1:args ++ caps = AV.rens (sg [i]) aa:=by first | rfl | (simp only [go_sem];rfl) | (simp [go_sem,sg,AV.rens,AV.ren];done)) (ha:AV.bds 1 aa = true:=by first | rfl | (simp only [go_sem];done) | simp [go_sem,AV.bds,AV.bd]):DApp P H (.fn f [] caps) args rs Kk :=
 .inr (.inr (.inl ⟨r,i,e,e',⟨hn,he,fun H₀ h0=>qbr i h ⟨rfl,rfl⟩ hb hb' (by
  rcases Nat.lt_or_ge i H₀.length with h1 | h1
  ·exact h1
  ·exact absurd (h0.symm.trans (qou h1)) hn) h0 hr e1 ha⟩,hq⟩))
end
theorem qh7 {H L:List Ent} {K:List Ent->Prop} {r:Rd} (h0:-1≤r.lv) (h1:r.lv≤1000) (hH:H = rdE r :: .blk [.ptr 0 0] :: L) (hq:K (rdE (lvR (r.lv - 1) r) :: .blk [.ptr 0 0] :: L)):dlqD Try.prog [.dfr (.fn 71 [] [.ptr 1 0]) []] H K:=by
 subst hH
 refine ⟨_,[],[.ptr 1 0],rfl,q38 c0d (by simp) ?_⟩
 have hw:IntKind.i64.wrap (r.lv - 1) = r.lv - 1:=qv (by omega) (by omega)
 repeat' (first | refine vs_ ?_ | ((first | refine vr_ ?_ | fail)<;>(try simp only [hw,go_sem,↓reduceIte])) | ((first | (refine cs_ ?_ ?_<;>intro hc) | refine cj_ ?_ | fail)<;>(try refine ev_ ?_)) | with_reducible exact ti_)
 exact ⟨rfl,hq⟩

theorem qul {n:Nat} {r:Rd} (hp:pfx [40] r.s = false) (hk:ascS r.s):VM Try.prog 72 (rdE r) (rdE (qis r).2) [.ptr 0 0] (encY (qis r).1):=by
 refine qbj c0e 1 (by simp) (by simp) ?_
 have hx:=qgo hk
 have hw:=qol r.s
 by_cases hl:qdg r.s < r.s.length
 ·rw [qgy,if_pos hl] at hx
  repeat' (first | refine vs_ ?_ | ((first | refine vr_ ?_ | refine qbr 0 (ql0 hp) ?_ | refine qa hx fun _=>?_ | refine qa (qez _) fun _=>?_ | refine qc hx ?_ | refine qc (qez _) ?_ | (refine cs_ ?_ ?_<;>intro hc) | refine cj_ ?_ | fail)<;>(try refine ev_ ?_)) | with_reducible exact ti_)
  all_goals first | (exfalso;omega) | (simp [qis,badR,cutR, *];done) | (have hl2:qdg r.s = r.s.length:=(by omega);simp [qis,badR,cutR, *];done)
 ·rw [qgy,if_neg hl] at hx
  repeat' (first | refine vs_ ?_ | ((first | refine vr_ ?_ | refine qbr 0 (ql0 hp) ?_ | refine qa hx fun _=>?_ | refine qa (qez _) fun _=>?_ | refine qc hx ?_ | refine qc (qez _) ?_ | (refine cs_ ?_ ?_<;>intro hc) | refine cj_ ?_ | fail)<;>(try refine ev_ ?_)) | with_reducible exact ti_)
  all_goals first | (exfalso;omega) | (simp [qis,badR,cutR, *];done) | (have hl2:qdg r.s = r.s.length:=(by omega);simp [qis,badR,cutR, *];done)
theorem qwq {r:Rd} {p:Ty×Rd} (hp:pfx [40] r.s = true) (hT:VM Try.prog 53 (rdE (cutR 1 r)) (rdE p.2) [.ptr 0 0] (encY p.1)):VM Try.prog 72 (rdE r) (rdE (endA p).2) [.ptr 0 0] (encY (endA p).1):=by
 refine qbj c0e 1 (by simp) (by simp) ?_
 cases hb:p.2.bad with
 | true =>
   rw [endA,if_pos hb]
   repeat' (first | refine vs_ ?_ | ((first | refine vr_ ?_ | fail)<;>(try simp only [hb,go_sem,↓reduceIte])) | ((first | (refine cs_ ?_ ?_<;>intro hc) | refine cj_ ?_ | fail | refine qbr 0 (qjh hp) ?_ | refine qbr 0 hT ?_)<;>(try refine ev_ ?_)) | with_reducible exact ti_)
 | false =>
   cases hc:pfx [41] p.2.s with
   | true =>
     rw [endA,if_neg (by simp [hb]),if_pos hc]
     repeat' (first | refine vs_ ?_ | ((first | refine vr_ ?_ | fail)<;>(try simp only [hb,go_sem,↓reduceIte])) | ((first | (refine cs_ ?_ ?_<;>intro hc) | refine cj_ ?_ | fail | refine qbr 0 (qjh hp) ?_ | refine qbr 0 hT ?_ | refine qbr 0 (qjh (r:=⟨p.2.s,p.2.lv,false⟩) hc) ?_)<;>(try refine ev_ ?_)) | with_reducible exact ti_)
   | false =>
     rw [endA,if_neg (by simp [hb]),if_neg (by simp [hc])]
     repeat' (first | refine vs_ ?_ | ((first | refine vr_ ?_ | fail)<;>(try simp only [hb,go_sem,↓reduceIte])) | ((first | (refine cs_ ?_ ?_<;>intro hc) | refine cj_ ?_ | fail | refine qbr 0 (qjh hp) ?_ | refine qbr 0 hT ?_ | refine qbr 0 (ql0 (r:=⟨p.2.s,p.2.lv,false⟩) hc) ?_)<;>(try refine ev_ ?_)) | with_reducible exact ti_)

def Suf (r:Rd) (k:Nat) (p:Ty×Rd):Prop:=(∃ j,p.2.s = r.s.drop j)∧p.2.lv = r.lv∧p.1.args.length + p.2.s.length≤k + r.s.length
theorem qfg {r r1:Rd} {k:Nat} {p:Ty×Rd} (h:(∃ j,r1.s = r.s.drop j)∧r1.lv = r.lv) (hp:Suf r1 k p) {k':Nat} (hl:k + r1.s.length≤k' + r.s.length):Suf r k' p:=by
 obtain ⟨⟨j,h1⟩,h2⟩:=h
 obtain ⟨⟨i,h3⟩,h4,h5⟩:=hp
 exact ⟨⟨j + i,by rw [h3,h1,List.drop_drop]⟩,h4.trans h2,by omega⟩
theorem qps (s:List UInt8):(qbx s).args = []:=by
 unfold qbx
 split
 ·rfl
 split
 ·split<;>rfl
 ·rfl
theorem qv1 (r:Rd):Suf r 0 (qis r):=⟨⟨qdg r.s,rfl⟩,rfl,by simp [qis,qps,badR,cutR]⟩
theorem qcb (k:Nat) (r:Rd):(cutR k r).s.length = r.s.length - k:=by simp [cutR]
theorem qdy {p s:List UInt8} (h:pfx p s = true):p.length≤s.length:=by
 simp only [pfx,decide_eq_true_eq] at h
 have:=congrArg List.length h
 rw [List.length_take] at this
 omega
theorem q15 {r:Rd} {p:Ty×Rd} (h:Suf r 0 p):Suf r 0 (endA p):=by
 obtain ⟨⟨j,h1⟩,h2,h3⟩:=h
 unfold endA
 repeat' split
 ·exact ⟨⟨j,h1⟩,h2,h3⟩
 ·refine ⟨⟨j + 1,by rw [cutR,h1,List.drop_drop]⟩,h2,?_⟩
  rw [qcb];dsimp only;omega
 ·exact ⟨⟨j,h1⟩,h2,h3⟩
theorem qzy:∀ n,(∀ r,Suf r 0 (qbp n r)∨n = 0)∧(∀ r,Suf r 0 (qcg n r)∨n = 0)∧(∀ t r,Suf r t.args.length (qdb n t r))∧(∀ p k (r:Rd),Suf r k p->Suf (lvR (r.lv - 1) r) k (qhc n p)):=by
 intro n
 induction n with
 | zero =>
   refine ⟨fun r=>.inr rfl,fun r=>.inr rfl,fun t r=>?_,fun p k r h=>?_⟩
   ·rw [qdb];exact ⟨⟨0,rfl⟩,rfl,Nat.le_refl _⟩
   ·rw [qhc];obtain ⟨h1,h2,h3⟩:=h;exact ⟨h1,by show p.2.lv - 1 = r.lv - 1;rw [h2],h3⟩
 | succ n ih =>
   obtain ⟨iA,iT,iM,iL⟩:=ih
   have hA0:∀ r,Suf r 0 (qbp n r):=fun r=>by
    rcases iA r with h | rfl
    ·exact h
    ·rw [qbp];exact ⟨⟨0,rfl⟩,rfl,by show ([]:List Ty).length + _≤_;simp⟩
   have hT0:∀ r,Suf r 0 (qcg n r):=fun r=>by
    rcases iT r with h | rfl
    ·exact h
    ·rw [qcg];exact ⟨⟨0,rfl⟩,rfl,by show ([]:List Ty).length + _≤_;simp⟩
   refine ⟨fun r=>.inl ?_,fun r=>.inl ?_,fun t r=>?_,fun p k r h=>?_⟩
   ·rw [qbp]
    split
    ·have h0:(∃ j,(cutR 1 r).s = r.s.drop j)∧(cutR 1 r).lv = r.lv:=⟨⟨1,rfl⟩,rfl⟩
     exact q15 (qfg h0 (hT0 (cutR 1 r)) (by rw [qcb];omega))
    ·exact qv1 r
   ·rw [qcg]
    split
    ·exact ⟨⟨0,rfl⟩,rfl,by show ([]:List Ty).length + _≤_;simp [badR]⟩
    ·have h1:=hA0 (lvR (r.lv + 1) r)
     have h2:=iM (qbp n (lvR (r.lv + 1) r)).1 (qbp n (lvR (r.lv + 1) r)).2
     have h3:Suf (lvR (r.lv + 1) r) 0 (qdb n (qbp n (lvR (r.lv + 1) r)).1 (qbp n (lvR (r.lv + 1) r)).2):=by
      refine qfg ⟨h1.1,h1.2.1⟩ h2 h1.2.2
     have h4:=iL _ 0 _ h3
     obtain ⟨⟨j,q1⟩,q2,q3⟩:=h4
     refine ⟨⟨j,q1⟩,?_,q3⟩
     rw [q2]
     show r.lv + 1 - 1 = r.lv
     omega
   ·rw [qdb]
    split
    ·rename_i hc
     have hl:=qdy hc.2.2
     simp only [List.length_cons,List.length_nil] at hl
     have h1:=hA0 (cutR 1 r)
     have h2:=iM (.mk t.con t.var (t.args ++ [(qbp n (cutR 1 r)).1])) (qbp n (cutR 1 r)).2
     obtain ⟨⟨j,q1⟩,q2,q3⟩:=h1
     rw [qcb] at q3
     have h0:(∃ j,(qbp n (cutR 1 r)).2.s = r.s.drop j)∧(qbp n (cutR 1 r)).2.lv = r.lv:=⟨⟨1 + j,by rw [q1,cutR,List.drop_drop]⟩,q2⟩
     refine qfg h0 h2 ?_
     show (t.args ++ [(qbp n (cutR 1 r)).1]).length + _≤_
     rw [List.length_append,List.length_singleton]
     omega
    ·exact ⟨⟨0,rfl⟩,rfl,Nat.le_refl _⟩
   ·rw [qhc]
    obtain ⟨⟨j,h1⟩,h2,h3⟩:=h
    split
    ·rename_i hc
     have hl:=qdy hc.2
     simp only [arrS,List.length_cons,List.length_nil] at hl
     obtain ⟨⟨i,q1⟩,q2,q3⟩:=hT0 (cutR 4 p.2)
     rw [qcb] at q3
     refine ⟨⟨j + 4 + i,?_⟩,?_,?_⟩
     ·show (qcg n (cutR 4 p.2)).2.s = _
      rw [q1,cutR,h1,List.drop_drop,List.drop_drop,← Nat.add_assoc];rfl
     ·show (qcg n (cutR 4 p.2)).2.lv - 1 = r.lv - 1
      rw [q2];show p.2.lv - 1 = _;rw [h2]
     ·show 2 + (qcg n (cutR 4 p.2)).2.s.length≤k + r.s.length
      omega
    ·exact ⟨⟨j,h1⟩,by show p.2.lv - 1 = r.lv - 1;rw [h2],h3⟩
theorem qn2 {n:Nat} (hn:n≠0) (r:Rd):Suf r 0 (qbp n r):=((qzy n).1 r).resolve_right hn
theorem qx3 {n:Nat} (hn:n≠0) (r:Rd):Suf r 0 (qcg n r):=((qzy n).2.1 r).resolve_right hn
theorem qv0 (n:Nat) (t:Ty) (r:Rd):Suf r t.args.length (qdb n t r):=(qzy n).2.2.1 t r
theorem qbcy {r:Rd} {k:Nat} {p:Ty×Rd} (h:Suf r k p) (hk:ascS r.s):ascS p.2.s:=by obtain ⟨⟨j,h1⟩,_⟩:=h;rw [h1];exact qc0 hk j
end Go.Proofs.Ytlahgbhhejkgbaa
