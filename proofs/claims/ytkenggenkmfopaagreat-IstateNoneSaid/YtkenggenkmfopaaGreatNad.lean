/- A text of this proof. -/
import Derived.Test.YtkenggenkmfopaaGreatNac
import Derived.ChangeKeysEq
set_option linter.unusedVariables false
set_option linter.unusedSimpArgs false

/-
 The value logic, part f: the other operations that yield a value; literals.
-/
namespace Go.V
open Go Go.RowKit

section
variable {P:Program} {w:World} {M:Nat->Nat->Prop} {G:List Gh} {H:List Ent} {n:Nat} {af:AF} {a:Act} {k:AV->Prop}

theorem qbg {α β:Type} (f:α->β) (r:Rs α) (k:β->Prop):(r.map f).bnd k ↔ r.bnd (fun x=>k (f x)):=by
 induction r with
 | ret a=>exact Iff.rfl
 | req p r ih=>simp only [Rs.map,Rs.bnd,ih]
 | bad=>exact Iff.rfl

theorem qkp {t:TypeId} {s:Sk} (h:skT P t = some s):P.underlying t = some (match s with | .int k=>.int k | .str=>.string | .bool=>.bool):=by
 unfold skT at h
 split at h<;>simp at h<;>subst h<;>assumption

theorem qbjk {t:TypeId} {s:Sk} (h:skT P t = some s):aggT P t = some false:=by
 unfold aggT
 rw [qkp h]
 cases s<;>rfl

theorem qej {t:TypeId} {s:Sk} {vs:List Value} {i:Nat} {x:Value} (h:skT P t = some s) (hx:vs[i]? = some x):(part t vs.toArray i).run P w = .ok x w:=by
 simp only [part,Sem.run_bind,qco (qbjk h),Result.andThen_ok,Bool.false_eq_true,if_false]
 simp [hx]

theorem qpo {t:TypeId} {s:Sk} {c d:AV} {x y:Value} {dd:Nat} (hs:skT P t = some s) (hx:VR w M G c x) (hy:VR w M G d y) (hl:fitc s c = true) (hl':fitc s d = true) :
 (Op.equalIn (dd + 1) t x y).run P w = .ok (eqc c d) w:=by
 have hu:=qkp hs
 cases s<;>cases c<;>simp [fitc] at hl<;>cases d<;>simp [fitc] at hl'<;>simp only [VR] at hx hy
 ·subst hl hl'
  obtain ⟨rfl,_⟩:=hx;obtain ⟨rfl,_⟩:=hy
  simp only [Op.equalIn,Sem.run_bind,run_underlying hu,Result.andThen_ok,if_true,Sem.run_pure,eqc]
  rfl
 ·obtain ⟨rfl,_⟩:=hx;obtain ⟨rfl,_⟩:=hy
  simp only [Op.equalIn,Sem.run_bind,run_underlying hu,Result.andThen_ok,Sem.run_pure,eqc]
  rw [beq_toListBytes,qj1,qj1,lbeq]
 ·subst hx hy
  simp only [Op.equalIn,Sem.run_bind,run_underlying hu,Result.andThen_ok,Sem.run_pure,eqc]

theorem qga {dd:Nat} {cs es:List AV} {xs ys:List Value} (hx:VRs w M G cs xs) (hy:VRs w M G es ys):∀ (fs:List Field) (i:Nat) (ks:List Sk),rowT P fs i = some ks →
 qf2 ks (cs.drop i) = true->qf2 ks (es.drop i) = true->(Op.eqFields (dd + 1) xs.toArray ys.toArray fs).run P w = .ok (eqcs (cs.drop i) (es.drop i)) w
 | [], i, ks, h, h1, h2 => by
   simp [rowT] at h;subst h
   cases hc:cs.drop i<;>cases he:es.drop i<;>simp [hc,he,qf2] at h1 h2
   simp [Op.eqFields,eqcs]
 | f :: fs, i, ks, h, h1, h2 => by
   simp only [rowT] at h
   split at h
   ·rename_i hf
    simp at hf
    obtain ⟨hn,hoff⟩:=hf
    split at h
    ·rename_i s l hs hl
     simp at h;subst h
     cases hc:cs.drop i with
     | nil=>simp [hc,qf2] at h1
     | cons c cr =>
       cases he:es.drop i with
       | nil=>simp [he,qf2] at h2
       | cons e er =>
         simp only [hc,he,qf2,Bool.and_eq_true] at h1 h2
         have hci:cs[i]? = some c:=by have:=List.getElem?_drop (xs:=cs) (i:=i) (j:=0);rw [hc] at this;simpa using this.symm
         have hei:es[i]? = some e:=by have:=List.getElem?_drop (xs:=es) (i:=i) (j:=0);rw [he] at this;simpa using this.symm
         obtain ⟨x,hxi,hxv⟩:=qkt hx hci
         obtain ⟨y,hyi,hyv⟩:=qkt hy hei
         have hcr:cr = cs.drop (i + 1):=by rw [← List.tail_drop,hc];rfl
         have her:er = es.drop (i + 1):=by rw [← List.tail_drop,he];rfl
         have ih:=qga (dd:=dd) hx hy fs (i + 1) l hl (by rw [← hcr];exact h1.2) (by rw [← her];exact h2.2)
         simp only [Op.eqFields,if_pos hn,Sem.run_bind,hoff,qej hs hxi,qej hs hyi,Result.andThen_ok,qpo hs hxv hyv h1.1 h2.1,Sem.run_ite,eqcs]
         rw [ih,← hcr,← her]
         cases eqc c e<;>simp
    ·cases h
   ·cases h

theorem qq {op:BinOp} {t:TypeId} {x y:Operand} {u v:Value} (h:∀ cs es,¬ (u = .agg cs∧v = .agg es)) (h':u = .nilIface∧v = .nilIface->(Region.isConst x || Region.isConst y) = true):(eqGuard op t x y u v).run P w = .ok () w:=by
 unfold eqGuard
 split
 all_goals first | rfl | skip
 all_goals
  simp only [Bool.not_true,Bool.false_eq_true,if_false]
  split
  ·have hc:=h' ⟨rfl,rfl⟩
   cases x<;>cases y<;>simp [Region.isConst] at hc<;>rfl
  ·exact absurd ⟨rfl,rfl⟩ (h _ _)
  ·rfl

theorem qe4 {op:BinOp} {t:TypeId} {x y:Operand} {cs es:Array Value} (h:P.eqGuardType P.depth t = false):(eqGuard op t x y (.agg cs) (.agg es)).run P w = .ok () w:=by
 unfold eqGuard
 split<;>first | rfl | simp [h]

theorem q0x {t:TypeId} {e:Eqk} (h:eqT P t = e):(e = .bool->P.underlying t = some .bool)∧(e = .ptr->∃ u,P.underlying t = some (.pointer u))∧(e = .iface->∃ u,P.underlying t = some (.interface u)) ∧
 (e = .func->∃ u v w,P.underlying t = some (.func u v w))∧(∀ ks,e = .cells ks->(∃ fs,P.underlying t = some (.struct fs)∧P.stoodInHeld t = false∧P.eqGuardType P.depth t = false∧rowT P fs.toList 0 = some ks)∨∃ n el s,P.underlying t = some (.array n el)∧P.eqGuardType P.depth t = false∧P.cellsOf el = 1∧skT P el = some s∧ks = List.replicate n s):=by
 unfold eqT at h
 split at h
 case h_1 hu=>subst h;exact ⟨fun _=>hu,(by simp),(by simp),(by simp),(by simp)⟩
 case h_2 u hu=>subst h;exact ⟨(by simp),fun _=>⟨u,hu⟩,(by simp),(by simp),(by simp)⟩
 case h_3 u hu=>subst h;exact ⟨(by simp),(by simp),(by simp),(by simp),(by simp)⟩
 case h_4 u hu=>subst h;exact ⟨(by simp),(by simp),fun _=>⟨u,hu⟩,(by simp),(by simp)⟩
 case h_5 u v w hu=>subst h;exact ⟨(by simp),(by simp),(by simp),fun _=>⟨u,v,w,hu⟩,(by simp)⟩
 case h_6 fs hu =>
  split at h
  ·rename_i hc
   simp at hc
   split at h
   ·rename_i ks hk
    subst h
    exact ⟨(by simp),(by simp),(by simp),(by simp),fun ks' hk'=>by cases hk';exact .inl ⟨fs,hu,hc.1,hc.2,hk⟩⟩
   ·subst h;exact ⟨(by simp),(by simp),(by simp),(by simp),(by simp)⟩
  ·subst h;exact ⟨(by simp),(by simp),(by simp),(by simp),(by simp)⟩
 case h_7 n el hu =>
  split at h
  ·rename_i hc
   simp at hc
   split at h
   ·rename_i k hk
    subst h
    exact ⟨(by simp),(by simp),(by simp),(by simp),fun ks' hk'=>by cases hk';exact .inr ⟨n,el,k,hu,hc.1,hc.2,hk,rfl⟩⟩
   ·subst h;exact ⟨(by simp),(by simp),(by simp),(by simp),(by simp)⟩
  ·subst h;exact ⟨(by simp),(by simp),(by simp),(by simp),(by simp)⟩
 case h_8=>subst h;exact ⟨(by simp),(by simp),(by simp),(by simp),(by simp)⟩
theorem qgu {dd:Nat} {cs es:List AV} {xs ys:List Value} (hx:VRs w M G cs xs) (hy:VRs w M G es ys) {el:TypeId} {s:Sk} (hs:skT P el = some s):∀ (m i:Nat),
 qf2 (List.replicate m s) (cs.drop i) = true->qf2 (List.replicate m s) (es.drop i) = true->(Op.eqItems (dd + 1) el 1 xs.toArray ys.toArray (List.range' i m)).run P w = .ok (eqcs (cs.drop i) (es.drop i)) w
 | 0, i, h1, h2 => by
   cases hc:cs.drop i<;>cases he:es.drop i<;>simp [hc,he,qf2] at h1 h2
   simp [Op.eqItems,eqcs]
 | m + 1, i, h1, h2 => by
   rw [List.replicate_succ] at h1 h2
   cases hc:cs.drop i with
   | nil=>simp [hc,qf2] at h1
   | cons c cr =>
     cases he:es.drop i with
     | nil=>simp [he,qf2] at h2
     | cons e er =>
       simp only [hc,he,qf2,Bool.and_eq_true] at h1 h2
       have hci:cs[i]? = some c:=by have:=List.getElem?_drop (xs:=cs) (i:=i) (j:=0);rw [hc] at this;simpa using this.symm
       have hei:es[i]? = some e:=by have:=List.getElem?_drop (xs:=es) (i:=i) (j:=0);rw [he] at this;simpa using this.symm
       obtain ⟨x,hxi,hxv⟩:=qkt hx hci
       obtain ⟨y,hyi,hyv⟩:=qkt hy hei
       have hcr:cr = cs.drop (i + 1):=by rw [← List.tail_drop,hc];rfl
       have her:er = es.drop (i + 1):=by rw [← List.tail_drop,he];rfl
       have ih:=qgu (dd:=dd) hx hy hs m (i + 1) (by rw [← hcr];exact h1.2) (by rw [← her];exact h2.2)
       simp only [List.range'_succ,Op.eqItems,Sem.run_bind,Nat.mul_one,qej hs hxi,qej hs hyi,Result.andThen_ok,qpo hs hxv hyv h1.1 h2.1,Sem.run_ite,eqcs]
       rw [ih,← hcr,← her]
       cases eqc c e<;>simp

theorem qdw {t:TypeId} {x y:Value} {r:Result Bool} (h:∀ dd,(Op.equalIn (dd + 1) t x y).run P w = r):(Op.equal t x y).run P w = r:=h 9999

def EqR (P:Program) (w:World) (t:TypeId) (x y:Value) (b:Bool):Prop :=
 (Go.binOp .eql t x y).run P w = .ok (.bool b) w∧(Go.binOp .neq t x y).run P w = .ok (.bool (!b)) w
theorem qf8 {t:TypeId} {x y:Value} {b:Bool} (h1:Go.binOp .eql t x y = (do pure (.bool (← Op.equal t x y)))) (h2:Go.binOp .neq t x y = (do pure (.bool (!(← Op.equal t x y)))))
 (h:(Op.equal t x y).run P w = .ok b w):EqR P w t x y b:=⟨by rw [h1];simp only [Sem.run_bind,h,Result.andThen_ok,Sem.run_pure],by rw [h2];simp only [Sem.run_bind,h,Result.andThen_ok,Sem.run_pure]⟩

theorem qo1 {t:TypeId} {p q:AV} {x y:Value} {kb:Bool->Prop} (hx:VR w M G p x) (hy:VR w M G q y) (h:(eqv (eqT P t) p q).bnd kb) :
 ∃ b,kb b∧EqR P w t x y b∧∀ op xo yo,((eqT P t).isIface = true->(Region.isConst xo || Region.isConst yo) = true)->(eqGuard op t xo yo x y).run P w = .ok () w:=by
 obtain ⟨c1,c2,c3,c4,c5⟩:=q0x (P:=P) (t:=t) rfl
 unfold eqv at h
 split at h
 case h_1 he =>
  have hu:=c1 he
  simp only [VR] at hx hy;subst hx hy
  exact ⟨_,h,qf8 rfl rfl (qdw fun dd=>by simp only [Op.equalIn,Sem.run_bind,run_underlying hu,Result.andThen_ok,Sem.run_pure]),fun op xo yo _=>qq (by simp) (by simp)⟩
 case h_2 he =>
  obtain ⟨u,hu⟩:=c2 he
  simp only [VR] at hx hy;subst hx hy
  exact ⟨_,h,qf8 rfl rfl (qdw fun dd=>by simp only [Op.equalIn,Sem.run_bind,run_underlying hu,Result.andThen_ok,Sem.run_pure];rfl),fun op xo yo _=>qq (by simp) (by simp)⟩
 case h_3 he =>
  obtain ⟨u,hu⟩:=c2 he
  simp only [VR] at hx hy;subst hy;obtain ⟨g,hg,rfl⟩:=hx
  exact ⟨_,h,qf8 rfl rfl (qdw fun dd=>by simp only [Op.equalIn,Sem.run_bind,run_underlying hu,Result.andThen_ok,Sem.run_pure]),fun op xo yo _=>qq (by simp) (by simp)⟩
 case h_4 he =>
  obtain ⟨u,hu⟩:=c2 he
  simp only [VR] at hx hy;subst hx;obtain ⟨g,hg,rfl⟩:=hy
  exact ⟨_,h,qf8 rfl rfl (qdw fun dd=>by simp only [Op.equalIn,Sem.run_bind,run_underlying hu,Result.andThen_ok,Sem.run_pure];rfl),fun op xo yo _=>qq (by simp) (by simp)⟩
 case h_5 he =>
  obtain ⟨u,hu⟩:=c3 he
  simp only [VR] at hx hy;subst hx hy
  exact ⟨_,h,qf8 rfl rfl (qdw fun dd=>by simp only [Op.equalIn,Sem.run_bind,run_underlying hu,Result.andThen_ok,Sem.run_pure]),fun op xo yo hn=>qq (by simp) (fun _=>hn (by rw [he];rfl))⟩
 case h_6 he =>
  obtain ⟨u,hu⟩:=c3 he
  simp only [VR] at hx hy;subst hy;obtain ⟨z,hz,rfl⟩:=hx
  exact ⟨_,h,qf8 rfl rfl (qdw fun dd=>by simp only [Op.equalIn,Sem.run_bind,run_underlying hu,Result.andThen_ok,Sem.run_pure]),fun op xo yo _=>qq (by simp) (by simp)⟩
 case h_7 he =>
  obtain ⟨u,v,w',hu⟩:=c4 he
  simp only [VR] at hx hy;subst hx hy
  exact ⟨_,h,qf8 rfl rfl (qdw fun dd=>by simp only [Op.equalIn,Sem.run_bind,run_underlying hu,Result.andThen_ok,Sem.run_pure]),fun op xo yo _=>qq (by simp) (by simp)⟩
 case h_8 he =>
  obtain ⟨u,v,w',hu⟩:=c4 he
  simp only [VR] at hx hy;subst hy;obtain ⟨xs,ys,h1,h2,rfl⟩:=hx
  exact ⟨_,h,qf8 rfl rfl (qdw fun dd=>by simp only [Op.equalIn,Sem.run_bind,run_underlying hu,Result.andThen_ok,Sem.run_pure]),fun op xo yo _=>qq (by simp) (by simp)⟩
 case h_9 ks cs es he =>
  simp only [Rs.bnd] at h
  obtain ⟨⟨h1,h2⟩,h⟩:=h
  obtain ⟨xs,rfl,hx⟩:=hx
  obtain ⟨ys,rfl,hy⟩:=hy
  rcases c5 ks he with ⟨fs,hu,hs,hg,hk⟩ | ⟨n,el,s,hu,hg,hsz,hs,rfl⟩
  case inr =>
   refine ⟨_,h,qf8 rfl rfl ?_,fun op xo yo _=>qe4 hg⟩
   have hd:Op.equal t (.agg xs.toArray) (.agg ys.toArray) = Op.equalIn (9999 + 1) t (.agg xs.toArray) (.agg ys.toArray):=rfl
   obtain ⟨i,hi⟩:=info_of_underlying (qkp hs)
   rw [hd,run_equalIn_array w 9999 xs.toArray ys.toArray hu hi,hsz,List.range_eq_range']
   exact qgu (dd:=9998) hx hy hs n 0 (by simpa using h1) (by simpa using h2)
  have hu':P.underlying t = some (.struct (P.fieldsOf t)):=by rw [Program.fieldsOf,hu]
  refine ⟨_,h,qf8 rfl rfl ?_,fun op xo yo _=>qe4 hg⟩
  have hd:Op.equal t (.agg xs.toArray) (.agg ys.toArray) = Op.equalIn (9999 + 1) t (.agg xs.toArray) (.agg ys.toArray):=rfl
  rw [hd,run_equalIn_struct w 9999 t _ _ hu' hs]
  have:P.fieldsOf t = fs:=by rw [Program.fieldsOf,hu]
  rw [this]
  exact qga (dd:=9998) hx hy fs.toList 0 ks hk (by simpa using h1) (by simpa using h2)
 case h_10=>simp only [Rs.bnd] at h

theorem qbti {o:Oper} {op:BinOp} {t yt:TypeId} {x y:Operand} {x' y':Opd} (ho:o.op = .binOp op t x y yt) (hx:cO x = some x') (hy:cO y = some y') (hif:(eqT P t).isIface = true->(Region.isConst x || Region.isConst y) = true)
 (hr:RelF w M G n af a) (h:(evv af H (.bin op (eqT P t) x' y')).bnd k):Yd P w M G a o k:=by
 have hvx:=qh hx hr
 have hvy:=qh hy hr
 refine Yd.of (s:=do eqGuard op t x y (a.eval x) (a.eval y);Go.binOp op t (a.eval x) (a.eval y)) (by simp only [execOp,ho]) ?_
 simp only [evv] at h
 generalize gt af x' = p at *
 generalize gt af y' = q at *
 generalize a.eval x = u at *
 generalize a.eval y = v at *
 unfold binv at h
 split at h
 ·rename_i k1 z1 k2 z2
  by_cases hk:k1 = k2
  ·rw [if_pos hk] at h
   subst hk
   simp only [VR] at hvx hvy
   obtain ⟨rfl,hw1⟩:=hvx
   obtain ⟨rfl,hw2⟩:=hvy
   obtain ⟨v',z,h1,h2,h3⟩:=qvi (P:=P) hw1 hw2 (t:=t) h
   refine ⟨v',z,h1,h2,?_⟩
   simp only [Sem.run_bind,qq (u:=.int k1 z1) (v:=.int k1 z2) (by simp) (by simp),Result.andThen_ok,h3]
  ·rw [if_neg hk] at h
   simp only [VR] at hvx hvy
   obtain ⟨rfl,hw1⟩:=hvx
   obtain ⟨rfl,hw2⟩:=hvy
   cases op<;>simp only [binX,Rs.bnd] at h
   obtain ⟨v',z,h1,h2,h3⟩:=ql6 (P:=P) (w:=w) (M:=M) (G:=G) (kk':=k2) (y:=z2) hw1 (t:=t) h
   refine ⟨v',z,h1,h2,?_⟩
   simp only [Sem.run_bind,qq (u:=.int k1 z1) (v:=.int k2 z2) (by simp) (by simp),Result.andThen_ok,h3]
 ·rename_i l1 l2
  simp only [VR] at hvx hvy
  obtain ⟨rfl,hw1⟩:=hvx
  obtain ⟨rfl,hw2⟩:=hvy
  obtain ⟨v',z,h1,h2,h3⟩:=quy (P:=P) hw1 hw2 (t:=t) h
  refine ⟨v',z,h1,h2,?_⟩
  simp only [Sem.run_bind,qq (u:=.string ⟨l1.toArray⟩) (v:=.string ⟨l2.toArray⟩) (by simp) (by simp),Result.andThen_ok,h3]
 ·cases op<;>simp only [eqb,Rs.bnd] at h
  ·rw [qbg] at h
   obtain ⟨b,h1,h2,h3⟩:=qo1 hvx hvy h
   exact ⟨_,_,h1,rfl,by simp only [Sem.run_bind,h3 _ _ _ hif,Result.andThen_ok,h2.1]⟩
  ·rw [qbg] at h
   obtain ⟨b,h1,h2,h3⟩:=qo1 hvx hvy h
   exact ⟨_,_,h1,rfl,by simp only [Sem.run_bind,h3 _ _ _ hif,Result.andThen_ok,h2.2]⟩
end
end Go.V
