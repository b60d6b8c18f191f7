/- Texts of this proof, joined. -/
import Derived.Test.YtlmcofjcpadmiaaGreatWax
import Derived.Test.YtlmcofjcpadmiaaGreatWat
import Derived.Shelf.Strings.Builder1
import Derived.Shelf.Strings.Builder2
import Derived.Shelf.Strings.OnBuilder
import Derived.Test.YtlmcofjcpadmiaaGreatProg
import Derived.Test.YtlmcofjcpadmiaaGreatWau
set_option linter.unusedVariables false
set_option linter.unusedSimpArgs false

/- expressions that are written: their words -/
namespace Go.Proofs.YtlmcofjcpadmiaaGreat
open Go Go.RowKit Go.V

theorem qft (n:N):ptB n = if n.kind = 31 then n.text ++ ([32,61,32] ++ (if 0 < n.kids.length then ptE (n.kids.getD 0 N0) else [])) else sgT n:=by
 obtain ⟨k,p,m,t,ks⟩:=n
 have ha:(((ks.map pba).zip ks).getD 0 q3).1.1 = if 0 < ks.length then ptE (ks.getD 0 N0) else []:=by
  by_cases h:0 < ks.length
  ·rw [if_pos h,qnb ks h]
  ·rw [if_neg h,qdn,List.getD_eq_getElem?_getD,List.getElem?_eq_none (by simpa using h)];rfl
 simp only [ptB,pba,qkn,ha,N.kind,N.text,N.kids]
 rfl
theorem qjd (n:N):ptL n = ptP (n.kids.getD 0 N0) ++ ([32,45,62,32] ++ (if 1 < n.kids.length then ptE (n.kids.getD 1 N0) else [])):=by
 obtain ⟨k,p,m,t,ks⟩:=n
 have ha:(((ks.map pba).zip ks).getD 1 q3).1.1 = if 1 < ks.length then ptE (ks.getD 1 N0) else []:=by
  by_cases h:1 < ks.length
  ·rw [if_pos h,qnb ks h]
  ·rw [if_neg h,qdn,List.getD_eq_getElem?_getD,List.getElem?_eq_none (by simpa using h)];rfl
 simp only [ptL,pba,qkn,ha,N.kids]
 rfl
def ekN (n:N) (i:Nat):N:=n.kids.getD i N0
def eitN (n:N):List N:=n.kids.take (n.kids.length - 1)
inductive ExQ (n:N):Prop
 | var (h:n.kind = 21) (h1:varW n.text = true) (h2:n.kids = []) (h3:n.num = 0)
 | con (h:n.kind = 22) (h1:conW n.text = true) (h2:n.kids = []) (h3:n.num = 0)
 | int (h:n.kind = 23) (h1:n.text = []) (h2:n.kids = []) (h3:0≤n.num)
 | app (h:n.kind = 24) (h1:n.text = []) (h2:n.kids = [ekN n 0,ekN n 1]) (h3:n.num = 0) (h4:exW (ekN n 0) = true) (h5:exW (ekN n 1) = true)
 | lam (h:n.kind = 25) (h1:varW n.text = true) (h2:n.kids = [ekN n 0]) (h3:n.num = 0) (h4:exW (ekN n 0) = true)
 | let_ (h:n.kind = 26) (h1:n.text = []) (h2:n.kids = eitN n ++ [ekN n (n.kids.length - 1)]) (h3:n.num = 0) (h4:∀ x∈eitN n,biW x = true∨sgW x = true) (h5:eitN n≠[]) (h6:exW (ekN n (n.kids.length - 1)) = true)
 | case (h:n.kind = 27) (h1:n.text = []) (h2:n.kids = ekN n 0 :: n.kids.drop 1) (h3:n.num = 0) (h4:exW (ekN n 0) = true) (h5:∀ x∈n.kids.drop 1,alW x = true) (h6:n.kids.drop 1≠[])
 | if_ (h:n.kind = 28) (h1:n.text = []) (h2:n.kids = [ekN n 0,ekN n 1,ekN n 2]) (h3:n.num = 0) (h4:exW (ekN n 0) = true) (h5:exW (ekN n 1) = true) (h6:exW (ekN n 2) = true)
theorem q9g {l:List N} (h:l.length = 1):l = [l.getD 0 N0]:=by
 match l,h with
 | [a],_=>rfl
theorem qpk {l:List N} (h:l.length = 2):l = [l.getD 0 N0,l.getD 1 N0]:=by
 match l,h with
 | [a,b],_=>rfl
theorem qbi6 {l:List N} (h:l.length = 3):l = [l.getD 0 N0,l.getD 1 N0,l.getD 2 N0]:=by
 match l,h with
 | [a,b,c],_=>rfl
theorem qg8 {n:N} (h:exW n = true):ExQ n:=by
 rw [qs1] at h
 have h0:decide ((n.kids.length:Int) = 0) = true->n.kids = []:=fun e=>List.length_eq_zero_iff.1 (by have:=of_decide_eq_true e;omega)
 have hi:((n.kids.length:Int) - 1).toNat = n.kids.length - 1:=by omega
 by_cases h1:n.kind = 21
 ·rw [if_pos h1] at h
  simp only [Bool.and_eq_true] at h
  exact .var h1 h.1.2 (h0 h.2) (of_decide_eq_true h.1.1)
 rw [if_neg h1] at h
 by_cases h2:n.kind = 22
 ·rw [if_pos h2] at h
  simp only [Bool.and_eq_true] at h
  exact .con h2 h.1.2 (h0 h.2) (of_decide_eq_true h.1.1)
 rw [if_neg h2] at h
 by_cases h3:n.kind = 23
 ·rw [if_pos h3] at h
  simp only [Bool.and_eq_true] at h
  exact .int h3 (of_decide_eq_true h.1.1) (h0 h.2) (of_decide_eq_true h.1.2)
 rw [if_neg h3] at h
 by_cases h4:n.kind = 24
 ·rw [if_pos h4] at h
  simp only [Bool.and_eq_true,decide_eq_true_eq,List.all_eq_true] at h
  obtain ⟨⟨⟨a,b⟩,c⟩,d⟩:=h
  have hl:n.kids.length = 2:=by omega
  exact .app h4 a (qpk hl) b (d _ (qg (by omega))) (d _ (qg (by omega)))
 rw [if_neg h4] at h
 by_cases h5:n.kind = 25
 ·rw [if_pos h5] at h
  simp only [Bool.and_eq_true,decide_eq_true_eq] at h
  obtain ⟨⟨⟨a,b⟩,c⟩,d⟩:=h
  exact .lam h5 b (q9g (by omega)) a d
 rw [if_neg h5] at h
 by_cases h6:n.kind = 26
 ·rw [if_pos h6] at h
  simp only [Bool.and_eq_true,decide_eq_true_eq,List.all_eq_true,Bool.or_eq_true,hi] at h
  obtain ⟨⟨⟨⟨a,b⟩,c⟩,d⟩,e⟩:=h
  have hl:n.kids.length - 1 < n.kids.length:=by omega
  refine .let_ h6 a ?_ b d (fun e=>?_) e
  ·rw [eitN,ekN,← qrs hl,List.take_of_length_le (by omega)]
  ·have:=congrArg List.length e
   rw [eitN,List.length_take,List.length_nil] at this;omega
 rw [if_neg h6] at h
 by_cases h7:n.kind = 27
 ·rw [if_pos h7] at h
  simp only [Bool.and_eq_true,decide_eq_true_eq,List.all_eq_true] at h
  obtain ⟨⟨⟨⟨a,b⟩,c⟩,d⟩,e⟩:=h
  refine .case h7 a ?_ b d e (fun e=>?_)
  ·have:=qp4 (l:=n.kids) (i:=0) (by omega)
   rwa [List.drop_zero] at this
  ·have:=congrArg List.length e
   rw [List.length_drop,List.length_nil] at this;omega
 rw [if_neg h7] at h
 by_cases h8:n.kind = 28
 ·rw [if_pos h8] at h
  simp only [Bool.and_eq_true,decide_eq_true_eq,List.all_eq_true] at h
  obtain ⟨⟨⟨a,b⟩,c⟩,d⟩:=h
  have hl:n.kids.length = 3:=by omega
  exact .if_ h8 a (qbi6 hl) b (d _ (qg (by omega))) (d _ (qg (by omega))) (d _ (qg (by omega)))
 ·rw [if_neg h8] at h;cases h
theorem qeu {n:N} (h:sgW n = true):n.kind = 32∧n.num = 0∧varW n.text = true∧n.kids = [ekN n 0]∧quW (ekN n 0) = true:=by
 simp only [sgW,Bool.and_eq_true,decide_eq_true_eq] at h
 obtain ⟨⟨⟨⟨a,b⟩,c⟩,d⟩,e⟩:=h
 exact ⟨a,b,c,q9g (by omega),e⟩
theorem qds {n:N} (h:biW n = true):n.kind = 31∧n.num = 0∧varW n.text = true∧n.kids = [ekN n 0]∧exW (ekN n 0) = true:=by
 rw [qsq] at h
 simp only [Bool.and_eq_true,decide_eq_true_eq] at h
 obtain ⟨⟨⟨⟨a,b⟩,c⟩,d⟩,e⟩:=h
 exact ⟨a,b,c,q9g (by omega),e⟩
theorem qfs {n:N} (h:alW n = true):n.kind = 15∧n.text = []∧n.num = 0∧n.kids = [ekN n 0,ekN n 1]∧paW (ekN n 0) = true∧exW (ekN n 1) = true:=by
 rw [qte] at h
 simp only [Bool.and_eq_true,decide_eq_true_eq] at h
 obtain ⟨⟨⟨⟨⟨a,b⟩,c⟩,d⟩,e⟩,f⟩:=h
 exact ⟨a,b,c,qpk (by omega),e,f⟩
theorem qbj8 (n:N):ptB n≠[]:=by
 rw [qft]
 split
 ·simp
 ·rw [sgT];simp
theorem qbfp (n:N):ptL n≠[]:=by rw [qjd];simp
theorem qra {f:N->List UInt8} {s:List UInt8} (hf:∀ x,f x≠[]):∀ (l:List N),l≠[]->Lib.join (l.map f) s≠[]
 | [],h=>absurd rfl h
 | [x],_=>by rw [List.map_singleton,qc7];exact hf x
 | x :: y :: l, _ => by
   rw [List.map_cons,List.map_cons,qbr]
   intro h
   exact hf x (List.append_eq_nil_iff.1 h).1

/-! what is skipped -/
/-! what is read -/


end Go.Proofs.YtlmcofjcpadmiaaGreat

/- declarations: what is read (plain) -/
namespace Go.Proofs.YtlmcofjcpadmiaaGreat
open Go Go.RowKit Go.V
set_option linter.unusedSectionVars false

def q1i (c:K):K×Option N:=qb5 (qc6 (rest c + 2)) c
theorem szA:∀ c,SzO c (q1i c):=fun c n h=>by
 have h1:=qlj (qie (rest c + 2)) (c:=c) (by unfold q1i at h;rw [h];rfl)
 have h2:=qgh (qnv (rest c + 2)) h
 unfold q1i at h ⊢
 omega
end Go.Proofs.YtlmcofjcpadmiaaGreat

/- declarations that are written: their texts and words -/
namespace Go.Proofs.YtlmcofjcpadmiaaGreat
open Go Go.RowKit Go.V

def ahN (n:N):List N:=n.kids.take n.num.toNat
def beN (n:N):List N:=n.kids.drop n.num.toNat
def brB (l:List N):List UInt8:=brW (Lib.join (l.map ptB) smW)
def hdT (n:N):List UInt8:=ctT (ahN n) ++ (n.text ++ (atT ((beN n).getD 0 N0) ++ ([32,119,104,101,114,101,32] ++ brB ((beN n).drop 1))))
def ptD (n:N):List UInt8 :=
 if n.kind = 31∨n.kind = 32 then ptB n
 else if n.kind = 33 then [100,97,116,97,32] ++ (n.text ++ (((ahN n).map atT).flatten ++ ([32,61,32] ++ Lib.join ((beN n).map ptT) [32,124,32])))
 else if n.kind = 35 then [99,108,97,115,115,32] ++ hdT n
 else [105,110,115,116,97,110,99,101,32] ++ hdT n
def ptG (n:N):List UInt8:=(n.kids.map fun x=>ptD x ++ [59,10]).flatten
inductive DeQ (n:N):Prop
 | bind (h:n.kind = 31) (h1:biW n = true)
 | sig (h:n.kind = 32) (h1:sgW n = true)
 | data (h:n.kind = 33) (h1:conW n.text = true) (h2:n.kids = ahN n ++ beN n) (h3:((ahN n).length:Int) = n.num) (h4:beN n≠[]) (h5:∀ x∈ahN n,vaW x = true) (h6:∀ x∈beN n,cnW x = true)
 | cls (h:n.kind = 35) (h1:conW n.text = true) (h2:n.kids = ahN n ++ (beN n).getD 0 N0 :: (beN n).drop 1) (h3:((ahN n).length:Int) = n.num) (h5:∀ x∈ahN n,prW x = true) (h6:vaW ((beN n).getD 0 N0) = true) (h7:∀ x∈(beN n).drop 1,sgW x = true)
 | inst (h:n.kind = 36) (h1:conW n.text = true) (h2:n.kids = ahN n ++ (beN n).getD 0 N0 :: (beN n).drop 1) (h3:((ahN n).length:Int) = n.num) (h5:∀ x∈ahN n,prW x = true) (h6:tyW ((beN n).getD 0 N0) = true) (h7:∀ x∈(beN n).drop 1,biW x = true)
theorem qkx {n:N} (h:deW n = true):DeQ n:=by
 unfold deW at h
 by_cases h1:n.kind = 31
 ·rw [if_pos h1] at h;exact .bind h1 h
 rw [if_neg h1] at h
 by_cases h2:n.kind = 32
 ·rw [if_pos h2] at h;exact .sig h2 h
 rw [if_neg h2] at h
 simp only [Bool.and_eq_true,Bool.not_eq_true',decide_eq_false_iff_not] at h
 obtain ⟨⟨⟨hc,h3⟩,h4⟩,h5⟩:=h
 have hlt:n.num.toNat < n.kids.length:=by omega
 have hl:((ahN n).length:Int) = n.num:=by rw [ahN,List.length_take];omega
 have hb:beN n = n.kids.getD n.num.toNat N0 :: n.kids.drop (n.num + 1).toNat:=by
  rw [beN,qp4 hlt,show (n.num + 1).toNat = n.num.toNat + 1 by omega]
 have hk:n.kids = ahN n ++ beN n:=(List.take_append_drop _ _).symm
 have hb0:(beN n).getD 0 N0 = n.kids.getD n.num.toNat N0:=by rw [hb];rfl
 have hb1:(beN n).drop 1 = n.kids.drop (n.num + 1).toNat:=by rw [hb];rfl
 have hb':beN n = (beN n).getD 0 N0 :: (beN n).drop 1:=by rw [hb0,hb1];exact hb
 by_cases k3:n.kind = 33
 ·rw [if_pos k3] at h5
  simp only [Bool.and_eq_true,List.all_eq_true] at h5
  refine .data k3 hc hk hl (by rw [hb];simp) h5.1.1 fun x hx=>?_
  rw [hb] at hx
  rcases List.mem_cons.1 hx with rfl | hx
  ·exact h5.1.2
  ·exact h5.2 x hx
 rw [if_neg k3] at h5
 by_cases k4:n.kind = 35
 ·rw [if_pos k4] at h5
  simp only [Bool.and_eq_true,List.all_eq_true] at h5
  exact .cls k4 hc (hb' ▸ hk) hl h5.1.1 (by rw [hb0];exact h5.1.2) (by rw [hb1];exact h5.2)
 rw [if_neg k4] at h5
 by_cases k5:n.kind = 36
 ·rw [if_pos k5] at h5
  simp only [Bool.and_eq_true,List.all_eq_true] at h5
  exact .inst k5 hc (hb' ▸ hk) hl h5.1.1 (by rw [hb0];exact h5.1.2) (by rw [hb1];exact h5.2)
 ·rw [if_neg k5] at h5;cases h5
theorem qsj {n:N} (h:vaW n = true):n.kind = 1∧tyW n = true:=by
 simpa [vaW] using h
theorem qkl {n:N} (h:cnW n = true):n.kind = 34∧n.num = 0∧conW n.text = true∧∀ x∈n.kids,tyW x = true:=by
 simp only [cnW,qcn,Bool.and_eq_true,decide_eq_true_eq,List.all_eq_true] at h
 exact ⟨h.1.1,h.1.2.1,h.1.2.2,h.2⟩

attribute [go_sem] cond_true cond_false
end Go.Proofs.YtlmcofjcpadmiaaGreat
/-
 The shelf's contracts over this program, laid as plain text by the kit's lay-plain.
-/
namespace Go.Proofs
open Go.Shelf
def Tryz.lays156_ren:Go.Shelf.Ren:=⟨fun | 156=>83 | 165=>128 | 166=>129 | 169=>130 | 240=>177 | 241=>178 | 276=>207 | 277=>208 | n=>n,fun | 31=>69 | 9=>9 | 3=>3 | 4=>4 | 0=>0 | 20=>20 | 72=>89 | 76=>93 | 70=>87 | 37=>68 | 75=>92 | 127=>111 | 164=>122 | 5=>5 | 80=>71 | n=>n,fun | n=>n⟩
theorem Tryz.lays156:Go.Proofs.Lays.n156 Tryz.prog Tryz.lays156_ren:={
 mixed:=by kernel_rfl
 f156:=Tryz.func83.trans (congrArg some (by kernel_rfl))
 f165:=Tryz.func128.trans (congrArg some (by kernel_rfl))
 f166:=Tryz.func129.trans (congrArg some (by kernel_rfl))
 f169:=Tryz.func130.trans (congrArg some (by kernel_rfl))
 f240:=Tryz.func177.trans (congrArg some (by kernel_rfl))
 f241:=Tryz.func178.trans (congrArg some (by kernel_rfl))
 f276:=Tryz.func207.trans (congrArg some (by kernel_rfl))
 f277:=Tryz.func208.trans (congrArg some (by kernel_rfl))
 t0:=Tryz.underlying0
 a0:=Tryz.isAgg0
 z0:=Tryz.sizeOf0
 v0:=Tryz.zeroValue0
 t3:=Tryz.underlying3
 a3:=Tryz.isAgg3
 z3:=Tryz.sizeOf3
 v3:=Tryz.zeroValue3
 t4:=Tryz.underlying4
 a4:=Tryz.isAgg4
 z4:=Tryz.sizeOf4
 v4:=Tryz.zeroValue4
 t9:=Tryz.underlying9
 a9:=Tryz.isAgg9
 z9:=Tryz.sizeOf9
 v9:=Tryz.zeroValue9
 t20:=Tryz.underlying20
 a20:=Tryz.isAgg20
 z20:=Tryz.sizeOf20
 v20:=Tryz.zeroValue20
 t31:=Tryz.underlying69
 a31:=Tryz.isAgg69
 z31:=Tryz.sizeOf69
 v31:=Tryz.zeroValue69
 t37:=Tryz.underlying68
 a37:=Tryz.isAgg68
 z37:=Tryz.sizeOf68
 v37:=Tryz.zeroValue68
 t70:=Tryz.underlying87
 a70:=Tryz.isAgg87
 z70:=Tryz.sizeOf87
 v70:=Tryz.zeroValue87
 t72:=Tryz.underlying89
 a72:=Tryz.isAgg89
 z72:=Tryz.sizeOf89
 v72:=Tryz.zeroValue89
 t75:=Tryz.underlying92
 a75:=Tryz.isAgg92
 z75:=Tryz.sizeOf92
 v75:=Tryz.zeroValue92
 t76:=Tryz.underlying93
 a76:=Tryz.isAgg93
 z76:=Tryz.sizeOf93
 v76:=Tryz.zeroValue93
 t127:=Tryz.underlying111
 a127:=Tryz.isAgg111
 z127:=Tryz.sizeOf111
 v127:=Tryz.zeroValue111
 t164:=Tryz.underlying122
 a164:=Tryz.isAgg122
 z164:=Tryz.sizeOf122
 v164:=Tryz.zeroValue122 }
theorem Tryz.Builder_Extra_156:Builder.Extra Tryz.prog Tryz.lays156_ren:={
 sizeBuilder:=by kernel_rfl
 liesBuilder:=by kernel_rfl
 t5:=Tryz.underlying5
 a5:=Tryz.isAgg5
 z5:=Tryz.sizeOf5
 v5:=Tryz.zeroValue5
 infoByte:=by kernel_rfl
 cellsByte:=by kernel_rfl
 sizeByte:=by kernel_rfl
 neB5:=by decide }
open Go.RowKit in
theorem Tryz.strings_Join_none (a:Option Addr) (c:Nat) (sep:ByteArray) (w:World) :
 Calls Tryz.prog 83 #[.slice a 0 c,.string sep] w fun e w'=>e = .returned (.string ⟨#[]⟩)∧w' = w:=Any.strings_Join_none Tryz.lays156 Tryz.Builder_Extra_156 a c sep w
open Go.RowKit in
theorem Tryz.strings_Join (bk o c:Nat) (xs:List ByteArray) (sep:ByteArray) (w:World) (hcells:∀ (j:Nat) x,xs[j]? = some x->w.cell? ⟨bk,o + j,none⟩ = some (.string x)) (hbk:bk < w.heap.size) (hN:xs.length≤140737488355328) (hcap:xs.length≤c) (hlen:(Lib.join (xs.map (·.data.toList)) sep.data.toList).length≤140737488355328) :
 Calls Tryz.prog 83 #[.slice (some ⟨bk,o,none⟩) xs.length c,.string sep] w fun e w'=>e = .returned (.string ⟨(Lib.join (xs.map (·.data.toList)) sep.data.toList).toArray⟩)∧Below w.heap.size w w':=Any.strings_Join Tryz.lays156 Tryz.Builder_Extra_156 bk o c xs sep w hcells hbk hN hcap hlen

end Go.Proofs

/- the lexer's words: with a space between -/
namespace Go.Proofs.YtlmcofjcpadmiaaGreat
open Go Go.RowKit Go.V

theorem strings_Join {ls:List (List UInt8)} {sep:List UInt8} (hn:ls.length≤140737488355328) (hl:(Lib.join ls sep).length≤140737488355328):qh Tryz.prog 83 [.sl 1 (ls.map AV.str),.str sep] (.str (Lib.join ls sep)) :=
 qp3 (by kernel_rfl) Tryz.strings_Join_none Tryz.strings_Join hn hl
end Go.Proofs.YtlmcofjcpadmiaaGreat
