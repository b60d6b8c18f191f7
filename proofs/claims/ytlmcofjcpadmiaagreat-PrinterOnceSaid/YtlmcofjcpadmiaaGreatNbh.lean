/- Texts of this proof, joined. -/
import Derived.Test.YtlmcofjcpadmiaaGreatNbf
import Derived.Test.YtlmcofjcpadmiaaGreatNbg
import Derived.Test.YtlmcofjcpadmiaaGreatNat
import Derived.Shelf.Strings.Builder1
import Derived.Shelf.Strings.Builder2
import Derived.Shelf.Strings.OnBuilder
import Derived.Test.YtlmcofjcpadmiaaGreatProg
import Derived.Test.YtlmcofjcpadmiaaGreatNau
set_option linter.unusedVariables false
set_option linter.unusedSimpArgs false

/- declarations that are written: their texts and words -/
namespace Go.Proofs.YtlmcofjcpadmiaaGreat
open Go Go.RowKit Go.V

def ahN (n:N):List N:=n.kids.take n.num.toNat
def beN (n:N):List N:=n.kids.drop n.num.toNat
def brB (l:List N):List UInt8:=brW (Lib.join (l.map ptB) smW)
def qsw:List UInt8:=[119,104,101,114,101]
def hdT (n:N):List UInt8:=ctT (ahN n) ++ (n.text ++ (atT ((beN n).getD 0 N0) ++ ([32,119,104,101,114,101,32] ++ brB ((beN n).drop 1))))
def ptD (n:N):List UInt8 :=
 if n.kind = 31∨n.kind = 32 then ptB n
 else if n.kind = 33 then [100,97,116,97,32] ++ (n.text ++ (((ahN n).map atT).flatten ++ ([32,61,32] ++ Lib.join ((beN n).map ptT) [32,124,32])))
 else if n.kind = 35 then [99,108,97,115,115,32] ++ hdT n
 else [105,110,115,116,97,110,99,101,32] ++ hdT n
def ptG (n:N):List UInt8:=(n.kids.map fun x=>ptD x ++ [59,10]).flatten
def tkC (n:N):List T:=prH n :: (n.kids.map atK).flatten
def hdK (n:N):List T:=ctK (ahN n) ++ prH n :: (atK ((beN n).getD 0 N0) ++ rsT qsw :: semK (((beN n).drop 1).map tkB))
def tkD (n:N):List T :=
 if n.kind = 31∨n.kind = 32 then tkB n
 else if n.kind = 33 then rsT qoz :: prH n :: (((ahN n).map atK).flatten ++ mkT [61] :: qeo (mkT [124]) ((beN n).map tkC))
 else if n.kind = 35 then rsT qi2 :: hdK n
 else rsT qoj :: hdK n
inductive DeQ (n:N):Prop
 | bind (h:n.kind = 31) (h1:biW n = true)
 | sig (h:n.kind = 32) (h1:sgW n = true)
 | data (h:n.kind = 33) (h1:conW n.text = true) (h2:n.kids = ahN n ++ beN n) (h3:((ahN n).length:Int) = n.num) (h4:beN n≠[]) (h5:∀ x∈ahN n,vaW x = true) (h6:∀ x∈beN n,cnW x = true)
 | cls (h:n.kind = 35) (h1:conW n.text = true) (h2:n.kids = ahN n ++ (beN n).getD 0 N0 :: (beN n).drop 1) (h3:((ahN n).length:Int) = n.num) (h5:∀ x∈ahN n,prW x = true) (h6:vaW ((beN n).getD 0 N0) = true) (h7:∀ x∈(beN n).drop 1,sgW x = true)
 | inst (h:n.kind = 36) (h1:conW n.text = true) (h2:n.kids = ahN n ++ (beN n).getD 0 N0 :: (beN n).drop 1) (h3:((ahN n).length:Int) = n.num) (h5:∀ x∈ahN n,prW x = true) (h6:tyW ((beN n).getD 0 N0) = true) (h7:∀ x∈(beN n).drop 1,biW x = true)
theorem qn1 {n:N} (h:deW n = true):DeQ n:=by
 unfold deW at h
 by_cases h1:n.kind = 31
 ·rw [if_pos h1] at h;exact .bind h1 h
 rw [if_neg h1] at h
 by_cases h2:n.kind = 32
 ·rw [if_pos h2] at h;exact .sig h2 h
 rw [if_neg h2] at h
 simp only [Bool.and_eq_true,Bool.not_eq_true',decide_eq_false_iff_not] at h
 obtain ⟨⟨⟨hc,h3⟩,h4⟩,h5⟩:=h
 have hlt:n.num.toNat < n.kids.length:=by omega
 have hl:((ahN n).length:Int) = n.num:=by rw [ahN,List.length_take];omega
 have hb:beN n = n.kids.getD n.num.toNat N0 :: n.kids.drop (n.num + 1).toNat:=by
  rw [beN,q7w hlt,show (n.num + 1).toNat = n.num.toNat + 1 by omega]
 have hk:n.kids = ahN n ++ beN n:=(List.take_append_drop _ _).symm
 have hb0:(beN n).getD 0 N0 = n.kids.getD n.num.toNat N0:=by rw [hb];rfl
 have hb1:(beN n).drop 1 = n.kids.drop (n.num + 1).toNat:=by rw [hb];rfl
 have hb':beN n = (beN n).getD 0 N0 :: (beN n).drop 1:=by rw [hb0,hb1];exact hb
 by_cases k3:n.kind = 33
 ·rw [if_pos k3] at h5
  simp only [Bool.and_eq_true,List.all_eq_true] at h5
  refine .data k3 hc hk hl (by rw [hb];simp) h5.1.1 fun x hx=>?_
  rw [hb] at hx
  rcases List.mem_cons.1 hx with rfl | hx
  ·exact h5.1.2
  ·exact h5.2 x hx
 rw [if_neg k3] at h5
 by_cases k4:n.kind = 35
 ·rw [if_pos k4] at h5
  simp only [Bool.and_eq_true,List.all_eq_true] at h5
  exact .cls k4 hc (hb' ▸ hk) hl h5.1.1 (by rw [hb0];exact h5.1.2) (by rw [hb1];exact h5.2)
 rw [if_neg k4] at h5
 by_cases k5:n.kind = 36
 ·rw [if_pos k5] at h5
  simp only [Bool.and_eq_true,List.all_eq_true] at h5
  exact .inst k5 hc (hb' ▸ hk) hl h5.1.1 (by rw [hb0];exact h5.1.2) (by rw [hb1];exact h5.2)
 ·rw [if_neg k5] at h5;cases h5
theorem qub {n:N} (h:vaW n = true):n.kind = 1∧tyW n = true:=by
 simpa [vaW] using h
theorem qqw {n:N} (h:cnW n = true):n.kind = 34∧n.num = 0∧conW n.text = true∧∀ x∈n.kids,tyW x = true:=by
 simp only [cnW,qhy,Bool.and_eq_true,decide_eq_true_eq,List.all_eq_true] at h
 exact ⟨h.1.1,h.1.2.1,h.1.2.2,h.2⟩
theorem q5h {l:List N} (h:∀ x∈l,tyW x = true) (r:List UInt8) (hr:bnd r):bnd ((l.map atT).flatten ++ r)∧tokW ((l.map atT).flatten ++ r) = (tokW r).map ((l.map atK).flatten ++ ·) :=
 qwy (f:=fun x=>cloW (qbi x) (ptT x)) (g:=atK) l (fun x hx=>qna (wdT x (h x hx)).1 _) r hr
theorem qckr {n:N} (h:cnW n = true):Wd (ptT n) (tkC n):=fun r hr=>by
 obtain ⟨h1,_,h3,h4⟩:=qqw h
 obtain ⟨q1,q2⟩:=q5h h4 r hr
 rw [qkf,if_neg (fun e=>by have:=e.2;rw [this] at h3;revert h3;decide),List.append_assoc,qmx h3 q1,q2,tkC]
 cases tokW r<;>simp [prH]
theorem qcia {l:List N} (hw:∀ x∈l,(enc x).wf) (h:∀ x∈l,biW x = true∨sgW x = true) (r:List UInt8):tokW (brB l ++ r) = (tokW r).map (semK (l.map tkB) ++ ·):=by
 by_cases hl:l = []
 ·subst hl;exact qcfh r
 ·exact qbqv qbo0 hl (fun x hx=>((wdE x (hw x hx)).2.1 (h x hx)).1) r
theorem q7j {r:List UInt8}:tokW (119 :: 104 :: 101 :: 114 :: 101 :: 32 :: r) = (tokW (32 :: r)).map (rsT qsw :: ·):=qho (w:=qsw) (by decide) (by decide) (by decide) (by decide) rfl (qdu _)
theorem q9z {r:List UInt8}:tokW (100 :: 97 :: 116 :: 97 :: 32 :: r) = (tokW (32 :: r)).map (rsT qoz :: ·):=qho (w:=qoz) (by decide) (by decide) (by decide) (by decide) rfl (qdu _)
theorem q7x {r:List UInt8}:tokW (99 :: 108 :: 97 :: 115 :: 115 :: 32 :: r) = (tokW (32 :: r)).map (rsT qi2 :: ·):=qho (w:=qi2) (by decide) (by decide) (by decide) (by decide) rfl (qdu _)
theorem qba4 {r:List UInt8}:tokW (105 :: 110 :: 115 :: 116 :: 97 :: 110 :: 99 :: 101 :: 32 :: r) = (tokW (32 :: r)).map (rsT qoj :: ·):=qho (w:=qoj) (by decide) (by decide) (by decide) (by decide) rfl (qdu _)
theorem qch7 {n:N} (h1:conW n.text = true) (h5:∀ x∈ahN n,prW x = true) (h6:tyW ((beN n).getD 0 N0) = true) (hw:∀ x∈(beN n).drop 1,(enc x).wf) (h7:∀ x∈(beN n).drop 1,biW x = true∨sgW x = true) (r:List UInt8):tokW (hdT n ++ r) = (tokW r).map (hdK n ++ ·):=by
 rw [hdT]
 simp only [List.append_assoc]
 rw [qcc7 h5,atT,List.cons_append,qmx h1 (qdu _),qch]
 simp only [List.cons_append,List.nil_append]
 rw [qna (wdT _ h6).1 _ _ (qdu _),qch,q7j,qch,qcia hw h7]
 rw [hdK,atK]
 cases tokW r<;>simp [prH]
theorem wdD {n:N} (h:deW n = true) (hw:(enc n).wf):Wd (ptD n) (tkD n):=by
 have hk:∀ {x:N},x∈beN n->(enc x).wf:=fun hx=>qcf hw (List.mem_of_mem_drop hx)
 rcases qn1 h with ⟨h0,h1⟩ | ⟨h0,h1⟩ | ⟨h0,h1,h2,h3,h4,h5,h6⟩ | ⟨h0,h1,h2,h3,h5,h6,h7⟩ | ⟨h0,h1,h2,h3,h5,h6,h7⟩
 ·rw [ptD,tkD,if_pos (.inl h0),if_pos (.inl h0)]
  exact ((wdE n hw).2.1 (.inl h1)).1
 ·rw [ptD,tkD,if_pos (.inr h0),if_pos (.inr h0)]
  exact ((wdE n hw).2.1 (.inr h1)).1
 ·intro r hr
  simp only [ptD,tkD,h0,Int.reduceEq,or_self,if_false,if_true,List.append_assoc,List.cons_append,List.nil_append]
  rw [q9z,qch]
  obtain ⟨q1,q2⟩:=q5h (l:=ahN n) (fun x hx=>(qub (h5 x hx)).2) (32 :: 61 :: 32 :: (Lib.join ((beN n).map ptT) [32,124,32] ++ r)) (qdu _)
  have hj:=qv3 (f:=ptT) (g:=tkC) (s:=[32,124,32]) (t:=mkT [124]) (fun r=>by
   show tokW (32 :: 124 :: 32 :: r) = _
   rw [qch,qb5j,qch]) (fun r=>qdu _) (beN n) h4 fun x hx=>qckr (h6 x hx)
  rw [qmx h1 q1,q2,qch,qbox,hj r hr]
  cases tokW r<;>simp [prH]
 ·intro r hr
  simp only [ptD,tkD,h0,Int.reduceEq,or_self,if_false,if_true,List.cons_append,List.nil_append]
  rw [q7x,qch,qch7 h1 h5 (qub h6).2 (fun x hx=>hk (List.mem_of_mem_drop hx)) fun x hx=>.inr (h7 x hx)]
  cases tokW r<;>simp
 ·intro r hr
  simp only [ptD,tkD,h0,Int.reduceEq,or_self,if_false,if_true,List.cons_append,List.nil_append]
  rw [qba4,qch,qch7 h1 h5 h6 (fun x hx=>hk (List.mem_of_mem_drop hx)) fun x hx=>.inl (h7 x hx)]
  cases tokW r<;>simp
theorem wdG:∀ (l:List N),(∀ x∈l,deW x = true∧(enc x).wf)->tokW ((l.map fun x=>ptD x ++ [59,10]).flatten) = some ((l.map fun x=>tkD x ++ [mkT [59]]).flatten)
 | [],_=>qbgz
 | x :: l, h => by
   have ih:=wdG l fun y hy=>h y (by simp [hy])
   simp only [List.map_cons,List.flatten_cons,List.append_assoc,List.cons_append,List.nil_append]
   rw [wdD (h x (by simp)).1 (h x (by simp)).2 _ (qbp2 _),qbo4,qyk (c:=10) rfl,ih]
   simp

attribute [go_sem] cond_true cond_false
end Go.Proofs.YtlmcofjcpadmiaaGreat
/-
 The shelf's contracts over this program, laid as plain text by the kit's lay-plain.
-/
namespace Go.Proofs
open Go.Shelf
def Tryz.lays156_ren:Go.Shelf.Ren:=⟨fun | 156=>83 | 165=>128 | 166=>129 | 169=>130 | 240=>177 | 241=>178 | 276=>207 | 277=>208 | n=>n,fun | 31=>69 | 9=>9 | 3=>3 | 4=>4 | 0=>0 | 20=>20 | 72=>89 | 76=>93 | 70=>87 | 37=>68 | 75=>92 | 127=>111 | 164=>122 | 5=>5 | 80=>71 | n=>n,fun | n=>n⟩
theorem Tryz.lays156:Go.Proofs.Lays.n156 Tryz.prog Tryz.lays156_ren:={
 mixed:=by kernel_rfl
 f156:=Tryz.func83.trans (congrArg some (by kernel_rfl))
 f165:=Tryz.func128.trans (congrArg some (by kernel_rfl))
 f166:=Tryz.func129.trans (congrArg some (by kernel_rfl))
 f169:=Tryz.func130.trans (congrArg some (by kernel_rfl))
 f240:=Tryz.func177.trans (congrArg some (by kernel_rfl))
 f241:=Tryz.func178.trans (congrArg some (by kernel_rfl))
 f276:=Tryz.func207.trans (congrArg some (by kernel_rfl))
 f277:=Tryz.func208.trans (congrArg some (by kernel_rfl))
 t0:=Tryz.underlying0
 a0:=Tryz.isAgg0
 z0:=Tryz.sizeOf0
 v0:=Tryz.zeroValue0
 t3:=Tryz.underlying3
 a3:=Tryz.isAgg3
 z3:=Tryz.sizeOf3
 v3:=Tryz.zeroValue3
 t4:=Tryz.underlying4
 a4:=Tryz.isAgg4
 z4:=Tryz.sizeOf4
 v4:=Tryz.zeroValue4
 t9:=Tryz.underlying9
 a9:=Tryz.isAgg9
 z9:=Tryz.sizeOf9
 v9:=Tryz.zeroValue9
 t20:=Tryz.underlying20
 a20:=Tryz.isAgg20
 z20:=Tryz.sizeOf20
 v20:=Tryz.zeroValue20
 t31:=Tryz.underlying69
 a31:=Tryz.isAgg69
 z31:=Tryz.sizeOf69
 v31:=Tryz.zeroValue69
 t37:=Tryz.underlying68
 a37:=Tryz.isAgg68
 z37:=Tryz.sizeOf68
 v37:=Tryz.zeroValue68
 t70:=Tryz.underlying87
 a70:=Tryz.isAgg87
 z70:=Tryz.sizeOf87
 v70:=Tryz.zeroValue87
 t72:=Tryz.underlying89
 a72:=Tryz.isAgg89
 z72:=Tryz.sizeOf89
 v72:=Tryz.zeroValue89
 t75:=Tryz.underlying92
 a75:=Tryz.isAgg92
 z75:=Tryz.sizeOf92
 v75:=Tryz.zeroValue92
 t76:=Tryz.underlying93
 a76:=Tryz.isAgg93
 z76:=Tryz.sizeOf93
 v76:=Tryz.zeroValue93
 t127:=Tryz.underlying111
 a127:=Tryz.isAgg111
 z127:=Tryz.sizeOf111
 v127:=Tryz.zeroValue111
 t164:=Tryz.underlying122
 a164:=Tryz.isAgg122
 z164:=Tryz.sizeOf122
 v164:=Tryz.zeroValue122 }
theorem Tryz.Builder_Extra_156:Builder.Extra Tryz.prog Tryz.lays156_ren:={
 sizeBuilder:=by kernel_rfl
 liesBuilder:=by kernel_rfl
 t5:=Tryz.underlying5
 a5:=Tryz.isAgg5
 z5:=Tryz.sizeOf5
 v5:=Tryz.zeroValue5
 infoByte:=by kernel_rfl
 cellsByte:=by kernel_rfl
 sizeByte:=by kernel_rfl
 neB5:=by decide }
open Go.RowKit in
theorem Tryz.strings_Join_none (a:Option Addr) (c:Nat) (sep:ByteArray) (w:World) :
 Calls Tryz.prog 83 #[.slice a 0 c,.string sep] w fun e w'=>e = .returned (.string ⟨#[]⟩)∧w' = w:=Any.strings_Join_none Tryz.lays156 Tryz.Builder_Extra_156 a c sep w
open Go.RowKit in
theorem Tryz.strings_Join (bk o c:Nat) (xs:List ByteArray) (sep:ByteArray) (w:World) (hcells:∀ (j:Nat) x,xs[j]? = some x->w.cell? ⟨bk,o + j,none⟩ = some (.string x)) (hbk:bk < w.heap.size) (hN:xs.length≤140737488355328) (hcap:xs.length≤c) (hlen:(Lib.join (xs.map (·.data.toList)) sep.data.toList).length≤140737488355328) :
 Calls Tryz.prog 83 #[.slice (some ⟨bk,o,none⟩) xs.length c,.string sep] w fun e w'=>e = .returned (.string ⟨(Lib.join (xs.map (·.data.toList)) sep.data.toList).toArray⟩)∧Below w.heap.size w w':=Any.strings_Join Tryz.lays156 Tryz.Builder_Extra_156 bk o c xs sep w hcells hbk hN hcap hlen

end Go.Proofs

/- the lexer's words: with a space between -/
namespace Go.Proofs.YtlmcofjcpadmiaaGreat
open Go Go.RowKit Go.V

theorem strings_Join {ls:List (List UInt8)} {sep:List UInt8} (hn:ls.length≤140737488355328) (hl:(Lib.join ls sep).length≤140737488355328):qx Tryz.prog 83 [.sl 1 (ls.map AV.str),.str sep] (.str (Lib.join ls sep)) :=
 q8j (by kernel_rfl) Tryz.strings_Join_none Tryz.strings_Join hn hl
end Go.Proofs.YtlmcofjcpadmiaaGreat
