/- Texts of this proof, joined. -/
import Derived.Shelf.Strings.Builder1
import Derived.Shelf.Strings.Builder2
import Derived.Shelf.Strings.OnBuilder
import Derived.Shelf.Strings.IndexAnyAll
import Derived.Test.YtgglaabljlhliaaGreatProg
import Derived.Test.YtgglaabljlhliaaGreatLbq
import Derived.Test.YtgglaabljlhliaaGreatLbr
import Derived.Test.YtgglaabljlhliaaGreatLau
import Derived.Test.YtgglaabljlhliaaGreatLbl
set_option linter.unusedVariables false
set_option linter.unusedSimpArgs false
/-
 The shelf's contracts over this program, laid as plain text by the kit's lay-plain.
-/
namespace Go.Proofs
open Go.Shelf
def Tryz.lays153_ren:Go.Shelf.Ren:=⟨fun | 153=>94 | 152=>121 | 226=>122 | 227=>123 | 228=>124 | 137=>139 | 119=>140 | 224=>141 | 225=>142 | 217=>149 | 266=>151 | n=>n,fun | 9=>9 | 3=>3 | 4=>4 | 5=>5 | 21=>21 | 117=>189 | 116=>188 | 0=>0 | 46=>206 | 124=>207 | n=>n,fun | n=>n⟩
theorem Tryz.lays153:Go.Proofs.Lays.n153 Tryz.prog Tryz.lays153_ren:={
 mixed:=by kernel_rfl
 f119:=Tryz.func140.trans (congrArg some (by kernel_rfl))
 f137:=Tryz.func139.trans (congrArg some (by kernel_rfl))
 f152:=Tryz.func121.trans (congrArg some (by kernel_rfl))
 f153:=Tryz.func94.trans (congrArg some (by kernel_rfl))
 f217:=Tryz.func149.trans (congrArg some (by kernel_rfl))
 f224:=Tryz.func141.trans (congrArg some (by kernel_rfl))
 f225:=Tryz.func142.trans (congrArg some (by kernel_rfl))
 f226:=Tryz.func122.trans (congrArg some (by kernel_rfl))
 f227:=Tryz.func123.trans (congrArg some (by kernel_rfl))
 f228:=Tryz.func124.trans (congrArg some (by kernel_rfl))
 f266:=Tryz.func151.trans (congrArg some (by kernel_rfl))
 t0:=Tryz.underlying0
 a0:=Tryz.isAgg0
 z0:=Tryz.sizeOf0
 v0:=Tryz.zeroValue0
 t3:=Tryz.underlying3
 a3:=Tryz.isAgg3
 z3:=Tryz.sizeOf3
 v3:=Tryz.zeroValue3
 t4:=Tryz.underlying4
 a4:=Tryz.isAgg4
 z4:=Tryz.sizeOf4
 v4:=Tryz.zeroValue4
 t5:=Tryz.underlying5
 a5:=Tryz.isAgg5
 z5:=Tryz.sizeOf5
 v5:=Tryz.zeroValue5
 t9:=Tryz.underlying9
 a9:=Tryz.isAgg9
 z9:=Tryz.sizeOf9
 v9:=Tryz.zeroValue9
 t21:=Tryz.underlying21
 a21:=Tryz.isAgg21
 z21:=Tryz.sizeOf21
 v21:=Tryz.zeroValue21
 t46:=Tryz.underlying206
 a46:=Tryz.isAgg206
 z46:=Tryz.sizeOf206
 v46:=Tryz.zeroValue206
 t116:=Tryz.underlying188
 a116:=Tryz.isAgg188
 z116:=Tryz.sizeOf188
 t117:=Tryz.underlying189
 a117:=Tryz.isAgg189
 z117:=Tryz.sizeOf189
 v117:=Tryz.zeroValue189
 t124:=Tryz.underlying207
 a124:=Tryz.isAgg207
 z124:=Tryz.sizeOf207
 v124:=Tryz.zeroValue207 }
end Go.Proofs

/- the reader of terms: numbers of letters, leaves, what is taken -/
set_option maxRecDepth 4000
namespace Go.Proofs.YtgglaabljlhliaaGreat
open Go Go.RowKit Go.V

theorem qjw {s:List UInt8} (hs:ascS s):qk Tryz.prog 94 [.str s,.str [32,40,41]] (.int .i64 (Lib.indexAny s [32,40,41])) :=
 q1d (by kernel_rfl) (fun s chars w h2 h3 h4=>qx7 Tryz.lays153 (by kernel_rfl) s chars w h2 h3 h4) hs
theorem qk2:∀ (l:List UInt8) (k:Int),0≤k->k≤9223372036854775807->digW l = true->0≤(qfm k l).1∧(qfm k l).1≤9223372036854775807
 | [],k,h0,h1,_=>⟨h0,h1⟩
 | c :: r, k, h0, h1, hd => by
   rw [qfm]
   split
   ·exact ⟨by decide,by decide⟩
   ·rename_i hk
    have hd':qea c.toNat = true∧digW r = true:=by simpa [digW] using hd
    have hc:48≤(c.toNat:Int)∧(c.toNat:Int)≤57:=by
     have:=hd'.1
     simp only [qea,Bool.and_eq_true,decide_eq_true_eq] at this
     omega
    have h8:IntKind.u8.wrap ((c.toNat:Int) - 48) = (c.toNat:Int) - 48:=qp2 (by omega) (by omega)
    have h9:digV c = (c.toNat:Int) - 48:=by rw [digV,h8,qbc (by omega) (by omega)]
    have h10:topV c = (9223372036854775807 - ((c.toNat:Int) - 48)) / 10:=by
     have h:IntKind.i64.wrap (9223372036854775807 - ((c.toNat:Int) - 48)) = 9223372036854775807 - ((c.toNat:Int) - 48):=qbc (by omega) (by omega)
     rw [topV,h9,h,Int.tdiv_eq_ediv_of_nonneg (by omega),qbc (by omega) (by omega)]
    have h11:nxtV k c = 10 * k + ((c.toNat:Int) - 48):=by
     rw [nxtV,h9,qbc (z:=10 * k) (by omega) (by omega),qbc (by omega) (by omega)]
    exact qk2 r _ (by rw [h11];omega) (by rw [h11];omega) hd'.2
theorem qlj (l:List UInt8):0≤(qfk l).1∧(qfk l).1≤9223372036854775807:=by
 rw [qfk]
 split
 ·exact ⟨by decide,by decide⟩
 split
 ·rename_i h;exact qk2 l 0 (by decide) (by decide) h
 ·exact ⟨by decide,by decide⟩
theorem qb56 {c:UInt8} (h:¬ (c.toNat:Int) < 97):IntKind.i64.wrap (IntKind.u8.wrap ((c.toNat:Int) - 97)) = (c.toNat:Int) - 97:=by
 have:=c.toNat_lt
 rw [qp2 (by omega) (by omega),qbc (by omega) (by omega)]
theorem qb62 {b k:Int} (h0:97≤b) (h1:b≤122) (h2:0≤k) (h3:k≤177372539170284150):IntKind.i64.wrap (b - 97 + IntKind.i64.wrap (26 * k)) = 26 * k + (b - 97):=by
 rw [qbc (z:=26 * k) (by omega) (by omega),qbc (by omega) (by omega)];omega
attribute [go_sem] q73
theorem qjq (s:List UInt8):qk Tryz.prog 125 [.str s] (.int .i64 (numW s)):=by
 refine qd c0eb (by simp) (by simp only [go_sem]) rfl fun hw=>?_
 have hl:s.length≤maxLen:=hw.1
 have hr:=qlj (s.drop 1)
 by_cases h0:s = []
 ·subst h0
  repeat' (first | refine vs_ ?_ | ((first | refine vr_ ?_ | (refine cs_ ?_ ?_<;>intro hc) | refine cj_ ?_ | simp (disch:=omega) only [encs_getN,qb])<;>(try refine ev_ ?_)) | with_reducible exact ti_)
  all_goals first | rfl | (exact absurd rfl (by assumption))
 have hlp:=qkt h0
 repeat' (first | refine vs_ ?_ | ((first | refine vr_ ?_ | fail)<;>(try simp only [h0,decide_false,go_sem,↓reduceIte])) | ((first | simp (disch:=omega) only [qb56] | simp (disch:=omega) only [qb62] | (refine cs_ ?_ ?_<;>intro hc) | refine cj_ ?_ | simp (disch:=omega) only [encs_getN,qb] | refine qa (qh2 _) fun _=>?_ | refine qa (qjn _) fun _=>?_)<;>(try refine ev_ ?_)) | with_reducible exact ti_)
 all_goals (simp only [numW,numG, *,if_true,if_false,↓reduceIte,eq_self])
set_option maxRecDepth 4000

theorem qgy (s:List UInt8):qk Tryz.prog 95 [.str s] (encY (qpb s)):=by
 refine qd c0dy (by simp) (by simp only [go_sem]) (qck 0 _) fun hw=>?_
 have hr:=qlj (s.drop 1)
 cases hp:pfx [63] s with
 | false =>
   repeat' (first | refine vs_ ?_ | ((first | refine vr_ ?_ | fail)<;>(try simp only [hp,go_sem,↓reduceIte])) | ((first | (refine cs_ ?_ ?_<;>intro hc) | refine cj_ ?_ | fail | refine qa (qjq _) fun _=>?_ | refine qa (qm _ _) fun _=>?_)<;>(try refine ev_ ?_)) | with_reducible exact ti_)
   ·rw [qpb,if_pos (by assumption)];rfl
   ·rw [qpb,if_neg (by assumption),hp];rfl
 | true =>
   have hl:=q0x hp
   repeat' (first | refine vs_ ?_ | ((first | refine vr_ ?_ | fail)<;>(try simp only [hp,go_sem,↓reduceIte])) | ((first | (refine cs_ ?_ ?_<;>intro hc) | refine cj_ ?_ | fail | refine qa (qjq _) fun _=>?_ | refine qa (qm _ _) fun _=>?_ | refine qa (qh2 _) fun _=>?_)<;>(try refine ev_ ?_)) | with_reducible exact ti_)
   ·rw [qpb,if_pos (by assumption)];rfl
   ·rw [qpb,if_neg (by assumption),if_pos (by assumption),if_pos (by assumption),qbc (by omega) (by omega)];rfl
   ·rw [qpb,if_neg (by assumption),if_pos (by assumption),if_neg (by assumption)];rfl

/-! a copy of a row -/
abbrev qvu:FuncId:=67
theorem q2e:VCalls Tryz.prog qvu [] [.sl 3 (qx [])] fun H' o=>H' = []∧o = .val (.lit 3 []):=by
 refine qnp (k:=3) (Q':=fun H' o=>H' = []∧(o = .val (.lit 3 [])∨o = .val .nils)) ?_ fun H' o h=>?_
 ·refine qd5 c0dz 0 (by simp) (by simp) ?_
  unfold k0dz
  refine qcn (qh5 ?_)
  (refine ev_ ?_;(try with_reducible exact ti_))
  refine qcn (qcn (qo1 (l:=[⟨none,some 3,.v (.mov (.t 0))⟩]) (t:=4) (x:=.t 3) ?_))
  (refine ev_ ?_;(try with_reducible exact ti_))
  refine ⟨3,qx [],rfl,fun b hb=>?_⟩
  cases b
  ·repeat' (first | refine vs_ ?_ | ((first | refine vr_ ?_ | (refine cs_ ?_ ?_<;>intro hc) | refine cj_ ?_ | fail)<;>(try refine ev_ ?_)) | with_reducible exact ti_)
  ·repeat' (first | refine vs_ ?_ | ((first | refine vr_ ?_ | (refine cs_ ?_ ?_<;>intro hc) | refine cj_ ?_ | fail)<;>(try refine ev_ ?_)) | with_reducible exact ti_)
 ·rcases h with ⟨h,h1 | h1⟩
  ·exact .inl ⟨h,h1⟩
  ·exact .inr ⟨h1,h,rfl⟩
theorem q5a {l:List Ty} (h0:l≠[]) (hl:l.length≤4294967296):VCalls Tryz.prog qvu [] [.sl 3 (qx l)] fun H' o=>H' = [.app 3 (qx l)]∧o = .val (.row 0 l.length):=by
 refine qd5 c0dz 1 (by simp) (by simp) ?_
 unfold k0dz
 refine qcn (qh5 ?_)
 (refine ev_ ?_;(try with_reducible exact ti_))
 refine qcn (qcn (qo1 (l:=[⟨none,some 3,.v (.mov (.t 0))⟩]) (t:=4) (x:=.t 3) ?_))
 (refine ev_ ?_;(try with_reducible exact ti_))
 refine ⟨3,qx l,rfl,fun b hb=>?_⟩
 have hcap:qbb l.length 48 = True:=eq_true (by unfold qbb;omega)
 have hln:(qx l).length≠0:=by rw [qbz];exact fun h=>h0 (List.length_eq_zero_iff.1 h)
 have hln2:¬ l.length = 0:=fun h=>h0 (List.length_eq_zero_iff.1 h)
 cases b
 ·repeat' (first | refine vs_ ?_ | ((first | refine vr_ ?_ | fail)<;>(try simp only [hln2,hcap,Nat.zero_add,go_sem,↓reduceIte])) | ((first | (refine cs_ ?_ ?_<;>intro hc) | refine cj_ ?_ | fail)<;>(try refine ev_ ?_)) | with_reducible exact ti_)
 ·exact absurd (hb rfl) (fun h=>hln (by rw [h];rfl))
section
variable {l:List Ty} {H:List Ent} {args raws:List AV} {K:Md->AV->List Ent->Prop}
theorem qbce (hl:l = []) (hq:K .here (.lit 3 []) H) (ha:args = [.sl 3 (qx l)]:=by rfl):DApp Tryz.prog H (.fn qvu [] []) args raws K:=by
 subst hl
 subst ha
 refine .inl ⟨_,qcu ?_,hq⟩
 rw [List.nil_append,List.append_nil]
 refine qb7 [] q2e (by simp) trivial (by simp [AV.bds,AV.bd,qcm]) (by simp only [AV.rens,AV.ren,qfz]) fun H1 o ho=>?_
 obtain ⟨rfl,rfl⟩:=ho
 exact ⟨by simp [qhy,qbi],rfl⟩
theorem qbao (h0:l≠[]) (hl:l.length≤4294967296) (hq:K (.grow none (.app 3 (qx l)) l.length) (.row H.length l.length) (H ++ [.app 3 (qx l)])) (hr:raws = [.sl 3 (qx l)]:=by rfl):DApp Tryz.prog H (.fn qvu [] []) args raws K:=by
 subst hr
 refine .inr (.inr (.inr (.inl ⟨none,.app 3 (qx l),l.length,⟨fun q hq=>(by cases hq),fun H₀ h0'=>?_⟩,hq⟩)))
 refine qcu ?_
 rw [List.nil_append,List.append_nil]
 refine qb7 [] (q5a h0 hl) (by simp) trivial (by simp [AV.bds,AV.bd,qcm]) (by simp only [AV.rens,AV.ren,qfz]) fun H1 o ho=>?_
 obtain ⟨rfl,rfl⟩:=ho
 refine ⟨?_,?_⟩
 ·show H₀ ++ [(Ent.app 3 (qx l)).ren _] = H₀ ++ [_]
  rw [Ent.ren,qfz]
 ·show VO.val (.row (H₀.length + (0 - 0)) _) = _
  simp
end
/-! the reader -/
def rdE (r:Rd):Ent:=.blk [.str r.s,.int .i64 r.lv,.bool r.bad]
attribute [go_sem] rdE cutR badR lvR
theorem qbvd {p s:List UInt8} (h:pfx p s = true):p.length≤s.length:=by
 simp only [pfx,decide_eq_true_eq] at h
 have:=congrArg List.length h
 rw [List.length_take] at this
 omega
theorem qmt {r:Rd} {p:List UInt8} (h:pfx p r.s = true):VM Tryz.prog 66 (rdE r) (rdE (cutR p.length r)) [.ptr 0 0,.str p] (.bool true):=by
 refine qr c0ea 1 (by simp) (by simp) ?_
 have hl:=qbvd h
 repeat' (first | refine vs_ ?_ | ((first | refine vr_ ?_ | fail)<;>(try simp only [h,go_sem,↓reduceIte])) | ((first | (refine cs_ ?_ ?_<;>intro hc) | refine cj_ ?_ | fail | refine qa (qm _ _) fun _=>?_)<;>(try refine ev_ ?_)) | with_reducible exact ti_)
theorem qrq {r:Rd} {p:List UInt8} (h:pfx p r.s = false):VM Tryz.prog 66 (rdE r) (rdE r) [.ptr 0 0,.str p] (.bool false):=by
 refine qr c0ea 1 (by simp) (by simp) ?_
 repeat' (first | refine vs_ ?_ | ((first | refine vr_ ?_ | fail)<;>(try simp only [h,go_sem,↓reduceIte])) | ((first | (refine cs_ ?_ ?_<;>intro hc) | refine cj_ ?_ | fail | refine qa (qm _ _) fun _=>?_)<;>(try refine ev_ ?_)) | with_reducible exact ti_)
set_option maxRecDepth 4000

theorem qw4:∀ {H:List Ent} {i:Nat},H.length≤i->ent H i = .dead
 | [],_,_=>rfl
 | _ :: _,0,h=>absurd h (by simp)
 | _ :: H,i + 1,h=>qw4 (H:=H) (i:=i) (by simpa using h)
section
variable {P:Program} {f:FuncId} {e e':Ent} {aa args caps rs:List AV} {r:AV} {H:List Ent} {Kk:Md->AV->List Ent->Prop}
theorem q74 (i:Nat) (h:VM P f e e' aa r) (hq:Kk (.meth i e e') r (H.set i e')) (hn:e≠.dead:=by intro h;cases h) (hb:e.bd 0 = true:=by rfl) (hb':e'.bd 0 = true:=by rfl) (he:ent H i = e:=by rfl) (hr:r.bd 0 = true:=by first | rfl | simp [go_sem])
 (e1:args ++ caps = AV.rens (sg [i]) aa:=by first | rfl | (simp only [go_sem];rfl) | (simp [go_sem,sg,AV.rens,AV.ren];done)) (ha:AV.bds 1 aa = true:=by first | rfl | (simp only [go_sem];done) | simp [go_sem,AV.bds,AV.bd]):DApp P H (.fn f [] caps) args rs Kk :=
 .inr (.inr (.inl ⟨r,i,e,e',⟨hn,he,fun H₀ h0=>qcc i h ⟨rfl,rfl⟩ hb hb' (by
  rcases Nat.lt_or_ge i H₀.length with h1 | h1
  ·exact h1
  ·exact absurd (h0.symm.trans (qw4 h1)) hn) h0 hr e1 ha⟩,hq⟩))
end
theorem qlr {H L:List Ent} {K:List Ent->Prop} {r:Rd} (h0:-1≤r.lv) (h1:r.lv≤1000) (hH:H = rdE r :: .blk [.ptr 0 0] :: L) (hq:K (rdE (lvR (r.lv - 1) r) :: .blk [.ptr 0 0] :: L)):dlqD Tryz.prog [.dfr (.fn 63 [] [.ptr 1 0]) []] H K:=by
 subst hH
 refine ⟨_,[],[.ptr 1 0],rfl,qbu5 c0dw (by simp) ?_⟩
 have hw:IntKind.i64.wrap (r.lv - 1) = r.lv - 1:=qbc (by omega) (by omega)
 repeat' (first | refine vs_ ?_ | ((first | refine vr_ ?_ | fail)<;>(try simp only [hw,go_sem,↓reduceIte])) | ((first | (refine cs_ ?_ ?_<;>intro hc) | refine cj_ ?_ | fail)<;>(try refine ev_ ?_)) | with_reducible exact ti_)
 exact ⟨rfl,hq⟩

theorem q30 {n:Nat} {r:Rd} (hp:pfx [40] r.s = false) (hk:ascS r.s):VM Tryz.prog 64 (rdE r) (rdE (qpx r).2) [.ptr 0 0] (encY (qpx r).1):=by
 refine qr c0dx 1 (by simp) (by simp) ?_
 have hx:=qjw hk
 have hw:=qwg r.s
 by_cases hl:qgf r.s < r.s.length
 ·rw [qj5,if_pos hl] at hx
  repeat' (first | refine vs_ ?_ | ((first | refine vr_ ?_ | refine qcc 0 (qrq hp) ?_ | refine qa hx fun _=>?_ | refine qa (qgy _) fun _=>?_ | refine qc hx ?_ | refine qc (qgy _) ?_ | (refine cs_ ?_ ?_<;>intro hc) | refine cj_ ?_ | fail)<;>(try refine ev_ ?_)) | with_reducible exact ti_)
  all_goals first | (exfalso;omega) | (simp [qpx,badR,cutR, *];done) | (have hl2:qgf r.s = r.s.length:=(by omega);simp [qpx,badR,cutR, *];done)
 ·rw [qj5,if_neg hl] at hx
  repeat' (first | refine vs_ ?_ | ((first | refine vr_ ?_ | refine qcc 0 (qrq hp) ?_ | refine qa hx fun _=>?_ | refine qa (qgy _) fun _=>?_ | refine qc hx ?_ | refine qc (qgy _) ?_ | (refine cs_ ?_ ?_<;>intro hc) | refine cj_ ?_ | fail)<;>(try refine ev_ ?_)) | with_reducible exact ti_)
  all_goals first | (exfalso;omega) | (simp [qpx,badR,cutR, *];done) | (have hl2:qgf r.s = r.s.length:=(by omega);simp [qpx,badR,cutR, *];done)
theorem q89 {r:Rd} {p:Ty×Rd} (hp:pfx [40] r.s = true) (hT:VM Tryz.prog 40 (rdE (cutR 1 r)) (rdE p.2) [.ptr 0 0] (encY p.1)):VM Tryz.prog 64 (rdE r) (rdE (endA p).2) [.ptr 0 0] (encY (endA p).1):=by
 refine qr c0dx 1 (by simp) (by simp) ?_
 cases hb:p.2.bad with
 | true =>
   rw [endA,if_pos hb]
   repeat' (first | refine vs_ ?_ | ((first | refine vr_ ?_ | fail)<;>(try simp only [hb,go_sem,↓reduceIte])) | ((first | (refine cs_ ?_ ?_<;>intro hc) | refine cj_ ?_ | fail | refine qcc 0 (qmt hp) ?_ | refine qcc 0 hT ?_)<;>(try refine ev_ ?_)) | with_reducible exact ti_)
 | false =>
   cases hc:pfx [41] p.2.s with
   | true =>
     rw [endA,if_neg (by simp [hb]),if_pos hc]
     repeat' (first | refine vs_ ?_ | ((first | refine vr_ ?_ | fail)<;>(try simp only [hb,go_sem,↓reduceIte])) | ((first | (refine cs_ ?_ ?_<;>intro hc) | refine cj_ ?_ | fail | refine qcc 0 (qmt hp) ?_ | refine qcc 0 hT ?_ | refine qcc 0 (qmt (r:=⟨p.2.s,p.2.lv,false⟩) hc) ?_)<;>(try refine ev_ ?_)) | with_reducible exact ti_)
   | false =>
     rw [endA,if_neg (by simp [hb]),if_neg (by simp [hc])]
     repeat' (first | refine vs_ ?_ | ((first | refine vr_ ?_ | fail)<;>(try simp only [hb,go_sem,↓reduceIte])) | ((first | (refine cs_ ?_ ?_<;>intro hc) | refine cj_ ?_ | fail | refine qcc 0 (qmt hp) ?_ | refine qcc 0 hT ?_ | refine qcc 0 (qrq (r:=⟨p.2.s,p.2.lv,false⟩) hc) ?_)<;>(try refine ev_ ?_)) | with_reducible exact ti_)
end Go.Proofs.YtgglaabljlhliaaGreat
