/- Texts of this proof, joined. -/
import Derived.Shelf.Strings.Builder1
import Derived.Shelf.Strings.IndexAnyAll
import Derived.Test.YtefcfdejmfgbpaaProg
import Derived.Test.YtefcfdejmfgbpaaMbe
import Derived.Test.YtefcfdejmfgbpaaMbf
import Derived.Test.YtefcfdejmfgbpaaMao
import Derived.Test.YtefcfdejmfgbpaaMaq
set_option linter.unusedVariables false
set_option linter.unusedSimpArgs false
/-
 The shelf's contracts over this program, laid as plain text by the kit's lay-plain.
-/
namespace Go.Proofs
open Go.Shelf
def Try.lays153_ren:Go.Shelf.Ren:=⟨fun | 153=>56 | 152=>65 | 226=>66 | 227=>67 | 228=>68 | 137=>72 | 119=>73 | 224=>74 | 225=>75 | 217=>77 | 266=>78 | n=>n,fun | 9=>9 | 3=>3 | 4=>4 | 5=>5 | 21=>21 | 117=>102 | 116=>101 | 0=>0 | 46=>79 | 124=>109 | n=>n,fun | n=>n⟩
theorem Try.lays153:Go.Proofs.Lays.n153 Try.prog Try.lays153_ren:={
 mixed:=by kernel_rfl
 f119:=Try.func73.trans (congrArg some (by kernel_rfl))
 f137:=Try.func72.trans (congrArg some (by kernel_rfl))
 f152:=Try.func65.trans (congrArg some (by kernel_rfl))
 f153:=Try.func56.trans (congrArg some (by kernel_rfl))
 f217:=Try.func77.trans (congrArg some (by kernel_rfl))
 f224:=Try.func74.trans (congrArg some (by kernel_rfl))
 f225:=Try.func75.trans (congrArg some (by kernel_rfl))
 f226:=Try.func66.trans (congrArg some (by kernel_rfl))
 f227:=Try.func67.trans (congrArg some (by kernel_rfl))
 f228:=Try.func68.trans (congrArg some (by kernel_rfl))
 f266:=Try.func78.trans (congrArg some (by kernel_rfl))
 t0:=Try.underlying0
 a0:=Try.isAgg0
 z0:=Try.sizeOf0
 v0:=Try.zeroValue0
 t3:=Try.underlying3
 a3:=Try.isAgg3
 z3:=Try.sizeOf3
 v3:=Try.zeroValue3
 t4:=Try.underlying4
 a4:=Try.isAgg4
 z4:=Try.sizeOf4
 v4:=Try.zeroValue4
 t5:=Try.underlying5
 a5:=Try.isAgg5
 z5:=Try.sizeOf5
 v5:=Try.zeroValue5
 t9:=Try.underlying9
 a9:=Try.isAgg9
 z9:=Try.sizeOf9
 v9:=Try.zeroValue9
 t21:=Try.underlying21
 a21:=Try.isAgg21
 z21:=Try.sizeOf21
 v21:=Try.zeroValue21
 t46:=Try.underlying79
 a46:=Try.isAgg79
 z46:=Try.sizeOf79
 v46:=Try.zeroValue79
 t116:=Try.underlying101
 a116:=Try.isAgg101
 z116:=Try.sizeOf101
 t117:=Try.underlying102
 a117:=Try.isAgg102
 z117:=Try.sizeOf102
 v117:=Try.zeroValue102
 t124:=Try.underlying109
 a124:=Try.isAgg109
 z124:=Try.sizeOf109
 v124:=Try.zeroValue109 }
end Go.Proofs

/- the reader of terms: numbers of letters, leaves, what is taken -/
set_option maxRecDepth 4000
namespace Go.Proofs.Ytefcfdejmfgbpaa
open Go Go.RowKit Go.V

theorem qgp {s:List UInt8} (hs:ascS s):qo Try.prog 56 [.str s,.str [32,40,41]] (.int .i64 (Lib.indexAny s [32,40,41])) :=
 qst (by kernel_rfl) (fun s chars w h2 h3 h4=>qrv Try.lays153 (by kernel_rfl) s chars w h2 h3 h4) hs
theorem qh9:∀ (l:List UInt8) (k:Int),0≤k->k≤9223372036854775807->digW l = true->0≤(qe8 k l).1∧(qe8 k l).1≤9223372036854775807
 | [],k,h0,h1,_=>⟨h0,h1⟩
 | c :: r, k, h0, h1, hd => by
   rw [qe8]
   split
   ·exact ⟨by decide,by decide⟩
   ·rename_i hk
    have hd':qc4 c.toNat = true∧digW r = true:=by simpa [digW] using hd
    have hc:48≤(c.toNat:Int)∧(c.toNat:Int)≤57:=by
     have:=hd'.1
     simp only [qc4,Bool.and_eq_true,decide_eq_true_eq] at this
     omega
    have h8:IntKind.u8.wrap ((c.toNat:Int) - 48) = (c.toNat:Int) - 48:=qp9 (by omega) (by omega)
    have h9:digV c = (c.toNat:Int) - 48:=by rw [digV,h8,qw (by omega) (by omega)]
    have h10:topV c = (9223372036854775807 - ((c.toNat:Int) - 48)) / 10:=by
     have h:IntKind.i64.wrap (9223372036854775807 - ((c.toNat:Int) - 48)) = 9223372036854775807 - ((c.toNat:Int) - 48):=qw (by omega) (by omega)
     rw [topV,h9,h,Int.tdiv_eq_ediv_of_nonneg (by omega),qw (by omega) (by omega)]
    have h11:nxtV k c = 10 * k + ((c.toNat:Int) - 48):=by
     rw [nxtV,h9,qw (z:=10 * k) (by omega) (by omega),qw (by omega) (by omega)]
    exact qh9 r _ (by rw [h11];omega) (by rw [h11];omega) hd'.2
theorem qh2 (l:List UInt8):0≤(qee l).1∧(qee l).1≤9223372036854775807:=by
 rw [qee]
 split
 ·exact ⟨by decide,by decide⟩
 split
 ·rename_i h;exact qh9 l 0 (by decide) (by decide) h
 ·exact ⟨by decide,by decide⟩
theorem q95 {c:UInt8} (h:¬ (c.toNat:Int) < 97):IntKind.i64.wrap (IntKind.u8.wrap ((c.toNat:Int) - 97)) = (c.toNat:Int) - 97:=by
 have:=c.toNat_lt
 rw [qp9 (by omega) (by omega),qw (by omega) (by omega)]
theorem qbgf {b k:Int} (h0:97≤b) (h1:b≤122) (h2:0≤k) (h3:k≤177372539170284150):IntKind.i64.wrap (b - 97 + IntKind.i64.wrap (26 * k)) = 26 * k + (b - 97):=by
 rw [qw (z:=26 * k) (by omega) (by omega),qw (by omega) (by omega)];omega
attribute [go_sem] q5r
theorem qgm (s:List UInt8):qo Try.prog 69 [.str s] (.int .i64 (numW s)):=by
 refine qj c0by (by simp) (by simp only [go_sem]) rfl fun hw=>?_
 have hl:s.length≤maxLen:=hw.1
 have hr:=qh2 (s.drop 1)
 by_cases h0:s = []
 ·subst h0
  repeat' (first | refine vs_ ?_ | ((first | refine vr_ ?_ | (refine cs_ ?_ ?_<;>intro hc) | refine cj_ ?_ | simp (disch:=omega) only [encs_getN,qc])<;>(try refine ev_ ?_)) | with_reducible exact ti_)
  all_goals first | rfl | (exact absurd rfl (by assumption))
 have hlp:=qif h0
 repeat' (first | refine vs_ ?_ | ((first | refine vr_ ?_ | fail)<;>(try simp only [h0,decide_false,go_sem,↓reduceIte])) | ((first | simp (disch:=omega) only [q95] | simp (disch:=omega) only [qbgf] | (refine cs_ ?_ ?_<;>intro hc) | refine cj_ ?_ | simp (disch:=omega) only [encs_getN,qc] | refine qa (qfi _) fun _=>?_ | refine qa (qgf _) fun _=>?_)<;>(try refine ev_ ?_)) | with_reducible exact ti_)
 all_goals (simp only [numW,numG, *,if_true,if_false,↓reduceIte,eq_self])
set_option maxRecDepth 4000

theorem qed (s:List UInt8):qo Try.prog 57 [.str s] (encY (qkt s)):=by
 refine qj c0bv (by simp) (by simp only [go_sem]) (qbd 0 _) fun hw=>?_
 have hr:=qh2 (s.drop 1)
 cases hp:pfx [63] s with
 | false =>
   repeat' (first | refine vs_ ?_ | ((first | refine vr_ ?_ | fail)<;>(try simp only [hp,go_sem,↓reduceIte])) | ((first | (refine cs_ ?_ ?_<;>intro hc) | refine cj_ ?_ | fail | refine qa (qgm _) fun _=>?_ | refine qa (qf _ _) fun _=>?_)<;>(try refine ev_ ?_)) | with_reducible exact ti_)
   ·rw [qkt,if_pos (by assumption)];rfl
   ·rw [qkt,if_neg (by assumption),hp];rfl
 | true =>
   have hl:=qtm hp
   repeat' (first | refine vs_ ?_ | ((first | refine vr_ ?_ | fail)<;>(try simp only [hp,go_sem,↓reduceIte])) | ((first | (refine cs_ ?_ ?_<;>intro hc) | refine cj_ ?_ | fail | refine qa (qgm _) fun _=>?_ | refine qa (qf _ _) fun _=>?_ | refine qa (qfi _) fun _=>?_)<;>(try refine ev_ ?_)) | with_reducible exact ti_)
   ·rw [qkt,if_pos (by assumption)];rfl
   ·rw [qkt,if_neg (by assumption),if_pos (by assumption),if_pos (by assumption),qw (by omega) (by omega)];rfl
   ·rw [qkt,if_neg (by assumption),if_pos (by assumption),if_neg (by assumption)];rfl

/-! a copy of a row -/
abbrev qp2:FuncId:=49
theorem quh:VCalls Try.prog qp2 [] [.sl 3 (qn [])] fun H' o=>H' = []∧o = .val (.lit 3 []):=by
 refine qqe (k:=3) (Q':=fun H' o=>H' = []∧(o = .val (.lit 3 [])∨o = .val .nils)) ?_ fun H' o h=>?_
 ·refine qjd c0bw 0 (by simp) (by simp) ?_
  unfold k0bw
  refine qb1 (qem ?_)
  (refine ev_ ?_;(try with_reducible exact ti_))
  refine qb1 (qb1 (qus (l:=[⟨none,some 3,.v (.mov (.t 0))⟩]) (t:=4) (x:=.t 3) ?_))
  (refine ev_ ?_;(try with_reducible exact ti_))
  refine ⟨3,qn [],rfl,fun b hb=>?_⟩
  cases b
  ·repeat' (first | refine vs_ ?_ | ((first | refine vr_ ?_ | (refine cs_ ?_ ?_<;>intro hc) | refine cj_ ?_ | fail)<;>(try refine ev_ ?_)) | with_reducible exact ti_)
  ·repeat' (first | refine vs_ ?_ | ((first | refine vr_ ?_ | (refine cs_ ?_ ?_<;>intro hc) | refine cj_ ?_ | fail)<;>(try refine ev_ ?_)) | with_reducible exact ti_)
 ·rcases h with ⟨h,h1 | h1⟩
  ·exact .inl ⟨h,h1⟩
  ·exact .inr ⟨h1,h,rfl⟩
theorem qta {l:List Ty} (h0:l≠[]) (hl:l.length≤4294967296):VCalls Try.prog qp2 [] [.sl 3 (qn l)] fun H' o=>H' = [.app 3 (qn l)]∧o = .val (.row 0 l.length):=by
 refine qjd c0bw 1 (by simp) (by simp) ?_
 unfold k0bw
 refine qb1 (qem ?_)
 (refine ev_ ?_;(try with_reducible exact ti_))
 refine qb1 (qb1 (qus (l:=[⟨none,some 3,.v (.mov (.t 0))⟩]) (t:=4) (x:=.t 3) ?_))
 (refine ev_ ?_;(try with_reducible exact ti_))
 refine ⟨3,qn l,rfl,fun b hb=>?_⟩
 have hcap:qhy l.length 48 = True:=eq_true (by unfold qhy;omega)
 have hln:(qn l).length≠0:=by rw [qbh];exact fun h=>h0 (List.length_eq_zero_iff.1 h)
 have hln2:¬ l.length = 0:=fun h=>h0 (List.length_eq_zero_iff.1 h)
 cases b
 ·repeat' (first | refine vs_ ?_ | ((first | refine vr_ ?_ | fail)<;>(try simp only [hln2,hcap,Nat.zero_add,go_sem,↓reduceIte])) | ((first | (refine cs_ ?_ ?_<;>intro hc) | refine cj_ ?_ | fail)<;>(try refine ev_ ?_)) | with_reducible exact ti_)
 ·exact absurd (hb rfl) (fun h=>hln (by rw [h];rfl))
section
variable {l:List Ty} {H:List Ent} {args raws:List AV} {K:Md->AV->List Ent->Prop}
theorem qys (hl:l = []) (hq:K .here (.lit 3 []) H) (ha:args = [.sl 3 (qn l)]:=by rfl):DApp Try.prog H (.fn qp2 [] []) args raws K:=by
 subst hl
 subst ha
 refine .inl ⟨_,qcq ?_,hq⟩
 rw [List.nil_append,List.append_nil]
 refine qbv [] quh (by simp) trivial (by simp [AV.bds,AV.bd,qb0]) (by simp only [AV.rens,AV.ren,qex]) fun H1 o ho=>?_
 obtain ⟨rfl,rfl⟩:=ho
 exact ⟨by simp [qiu,q8],rfl⟩
theorem qwx (h0:l≠[]) (hl:l.length≤4294967296) (hq:K (.grow none (.app 3 (qn l)) l.length) (.row H.length l.length) (H ++ [.app 3 (qn l)])) (hr:raws = [.sl 3 (qn l)]:=by rfl):DApp Try.prog H (.fn qp2 [] []) args raws K:=by
 subst hr
 refine .inr (.inr (.inr (.inl ⟨none,.app 3 (qn l),l.length,⟨fun q hq=>(by cases hq),fun H₀ h0'=>?_⟩,hq⟩)))
 refine qcq ?_
 rw [List.nil_append,List.append_nil]
 refine qbv [] (qta h0 hl) (by simp) trivial (by simp [AV.bds,AV.bd,qb0]) (by simp only [AV.rens,AV.ren,qex]) fun H1 o ho=>?_
 obtain ⟨rfl,rfl⟩:=ho
 refine ⟨?_,?_⟩
 ·show H₀ ++ [(Ent.app 3 (qn l)).ren _] = H₀ ++ [_]
  rw [Ent.ren,qex]
 ·show VO.val (.row (H₀.length + (0 - 0)) _) = _
  simp
end
/-! the reader -/
def rdE (r:Rd):Ent:=.blk [.str r.s,.int .i64 r.lv,.bool r.bad]
attribute [go_sem] rdE cutR badR lvR
theorem q6j {p s:List UInt8} (h:pfx p s = true):p.length≤s.length:=by
 simp only [pfx,decide_eq_true_eq] at h
 have:=congrArg List.length h
 rw [List.length_take] at this
 omega
theorem qi6 {r:Rd} {p:List UInt8} (h:pfx p r.s = true):VM Try.prog 48 (rdE r) (rdE (cutR p.length r)) [.ptr 0 0,.str p] (.bool true):=by
 refine qh c0bx 1 (by simp) (by simp) ?_
 have hl:=q6j h
 repeat' (first | refine vs_ ?_ | ((first | refine vr_ ?_ | fail)<;>(try simp only [h,go_sem,↓reduceIte])) | ((first | (refine cs_ ?_ ?_<;>intro hc) | refine cj_ ?_ | fail | refine qa (qf _ _) fun _=>?_)<;>(try refine ev_ ?_)) | with_reducible exact ti_)
theorem qlr {r:Rd} {p:List UInt8} (h:pfx p r.s = false):VM Try.prog 48 (rdE r) (rdE r) [.ptr 0 0,.str p] (.bool false):=by
 refine qh c0bx 1 (by simp) (by simp) ?_
 repeat' (first | refine vs_ ?_ | ((first | refine vr_ ?_ | fail)<;>(try simp only [h,go_sem,↓reduceIte])) | ((first | (refine cs_ ?_ ?_<;>intro hc) | refine cj_ ?_ | fail | refine qa (qf _ _) fun _=>?_)<;>(try refine ev_ ?_)) | with_reducible exact ti_)
set_option maxRecDepth 4000

theorem qoy:∀ {H:List Ent} {i:Nat},H.length≤i->ent H i = .dead
 | [],_,_=>rfl
 | _ :: _,0,h=>absurd h (by simp)
 | _ :: H,i + 1,h=>qoy (H:=H) (i:=i) (by simpa using h)
section
variable {P:Program} {f:FuncId} {e e':Ent} {aa args caps rs:List AV} {r:AV} {H:List Ent} {Kk:Md->AV->List Ent->Prop}
theorem qvz (i:Nat) (h:VM P f e e' aa r) (hq:Kk (.meth i e e') r (H.set i e')) (hn:e≠.dead:=by intro h;cases h) (hb:e.bd 0 = true:=by rfl) (hb':e'.bd 0 = true:=by rfl) (he:ent H i = e:=by rfl) (hr:r.bd 0 = true:=by first | rfl | simp [go_sem])
 (e1:args ++ caps = AV.rens (sg [i]) aa:=by first | rfl | (simp only [go_sem];rfl) | (simp [go_sem,sg,AV.rens,AV.ren];done)) (ha:AV.bds 1 aa = true:=by first | rfl | (simp only [go_sem];done) | simp [go_sem,AV.bds,AV.bd]):DApp P H (.fn f [] caps) args rs Kk :=
 .inr (.inr (.inl ⟨r,i,e,e',⟨hn,he,fun H₀ h0=>qbj i h ⟨rfl,rfl⟩ hb hb' (by
  rcases Nat.lt_or_ge i H₀.length with h1 | h1
  ·exact h1
  ·exact absurd (h0.symm.trans (qoy h1)) hn) h0 hr e1 ha⟩,hq⟩))
end
theorem qio {H L:List Ent} {K:List Ent->Prop} {r:Rd} (h0:-1≤r.lv) (h1:r.lv≤1000) (hH:H = rdE r :: .blk [.ptr 0 0] :: L) (hq:K (rdE (lvR (r.lv - 1) r) :: .blk [.ptr 0 0] :: L)):dlqD Try.prog [.dfr (.fn 45 [] [.ptr 1 0]) []] H K:=by
 subst hH
 refine ⟨_,[],[.ptr 1 0],rfl,q3c c0bt (by simp) ?_⟩
 have hw:IntKind.i64.wrap (r.lv - 1) = r.lv - 1:=qw (by omega) (by omega)
 repeat' (first | refine vs_ ?_ | ((first | refine vr_ ?_ | fail)<;>(try simp only [hw,go_sem,↓reduceIte])) | ((first | (refine cs_ ?_ ?_<;>intro hc) | refine cj_ ?_ | fail)<;>(try refine ev_ ?_)) | with_reducible exact ti_)
 exact ⟨rfl,hq⟩

theorem qsw {n:Nat} {r:Rd} (hp:pfx [40] r.s = false) (hk:ascS r.s):VM Try.prog 46 (rdE r) (rdE (qkd r).2) [.ptr 0 0] (encY (qkd r).1):=by
 refine qh c0bu 1 (by simp) (by simp) ?_
 have hx:=qgp hk
 have hw:=qpb r.s
 by_cases hl:qdz r.s < r.s.length
 ·rw [qgz,if_pos hl] at hx
  repeat' (first | refine vs_ ?_ | ((first | refine vr_ ?_ | refine qbj 0 (qlr hp) ?_ | refine qa hx fun _=>?_ | refine qa (qed _) fun _=>?_ | refine qd hx ?_ | refine qd (qed _) ?_ | (refine cs_ ?_ ?_<;>intro hc) | refine cj_ ?_ | fail)<;>(try refine ev_ ?_)) | with_reducible exact ti_)
  all_goals first | (exfalso;omega) | (simp [qkd,badR,cutR, *];done) | (have hl2:qdz r.s = r.s.length:=(by omega);simp [qkd,badR,cutR, *];done)
 ·rw [qgz,if_neg hl] at hx
  repeat' (first | refine vs_ ?_ | ((first | refine vr_ ?_ | refine qbj 0 (qlr hp) ?_ | refine qa hx fun _=>?_ | refine qa (qed _) fun _=>?_ | refine qd hx ?_ | refine qd (qed _) ?_ | (refine cs_ ?_ ?_<;>intro hc) | refine cj_ ?_ | fail)<;>(try refine ev_ ?_)) | with_reducible exact ti_)
  all_goals first | (exfalso;omega) | (simp [qkd,badR,cutR, *];done) | (have hl2:qdz r.s = r.s.length:=(by omega);simp [qkd,badR,cutR, *];done)
theorem qws {r:Rd} {p:Ty×Rd} (hp:pfx [40] r.s = true) (hT:VM Try.prog 32 (rdE (cutR 1 r)) (rdE p.2) [.ptr 0 0] (encY p.1)):VM Try.prog 46 (rdE r) (rdE (endA p).2) [.ptr 0 0] (encY (endA p).1):=by
 refine qh c0bu 1 (by simp) (by simp) ?_
 cases hb:p.2.bad with
 | true =>
   rw [endA,if_pos hb]
   repeat' (first | refine vs_ ?_ | ((first | refine vr_ ?_ | fail)<;>(try simp only [hb,go_sem,↓reduceIte])) | ((first | (refine cs_ ?_ ?_<;>intro hc) | refine cj_ ?_ | fail | refine qbj 0 (qi6 hp) ?_ | refine qbj 0 hT ?_)<;>(try refine ev_ ?_)) | with_reducible exact ti_)
 | false =>
   cases hc:pfx [41] p.2.s with
   | true =>
     rw [endA,if_neg (by simp [hb]),if_pos hc]
     repeat' (first | refine vs_ ?_ | ((first | refine vr_ ?_ | fail)<;>(try simp only [hb,go_sem,↓reduceIte])) | ((first | (refine cs_ ?_ ?_<;>intro hc) | refine cj_ ?_ | fail | refine qbj 0 (qi6 hp) ?_ | refine qbj 0 hT ?_ | refine qbj 0 (qi6 (r:=⟨p.2.s,p.2.lv,false⟩) hc) ?_)<;>(try refine ev_ ?_)) | with_reducible exact ti_)
   | false =>
     rw [endA,if_neg (by simp [hb]),if_neg (by simp [hc])]
     repeat' (first | refine vs_ ?_ | ((first | refine vr_ ?_ | fail)<;>(try simp only [hb,go_sem,↓reduceIte])) | ((first | (refine cs_ ?_ ?_<;>intro hc) | refine cj_ ?_ | fail | refine qbj 0 (qi6 hp) ?_ | refine qbj 0 hT ?_ | refine qbj 0 (qlr (r:=⟨p.2.s,p.2.lv,false⟩) hc) ?_)<;>(try refine ev_ ?_)) | with_reducible exact ti_)
end Go.Proofs.Ytefcfdejmfgbpaa
