/- Texts of this proof, joined. -/
import Derived.Test.YtlmcofjcpadmiaaPax
import Derived.Test.YtlmcofjcpadmiaaPbb
import Derived.Test.YtlmcofjcpadmiaaPas
import Derived.Shelf.Strings.Builder1
import Derived.Shelf.Strings.Builder2
import Derived.Shelf.Strings.OnBuilder
import Derived.Shelf.Strings.Builder2Cap
import Derived.Test.YtlmcofjcpadmiaaProg
import Derived.Test.YtlmcofjcpadmiaaPat
set_option linter.unusedVariables false
set_option linter.unusedSimpArgs false

/- declarations: what is read (plain) -/
namespace Go.Proofs.Ytlmcofjcpadmiaa
open Go Go.RowKit Go.V
set_option linter.unusedSectionVars false

def q4s (c:K):K×Option N:=qbl (qbp (rest c + 2)) c
theorem szA:∀ c,SzO c (q4s c):=fun c n h=>by
 have h1:=qmu (qij (rest c + 2)) (c:=c) (by unfold q4s at h;rw [h];rfl)
 have h2:=qgy (qqs (rest c + 2)) h
 unfold q4s at h ⊢
 omega
end Go.Proofs.Ytlmcofjcpadmiaa

/- declarations that are written: their texts and words -/
namespace Go.Proofs.Ytlmcofjcpadmiaa
open Go Go.RowKit Go.V

def ahN (n:N):List N:=n.kids.take n.num.toNat
def beN (n:N):List N:=n.kids.drop n.num.toNat
def brB (l:List N):List UInt8:=brW (Lib.join (l.map ptB) smW)
def hdT (n:N):List UInt8:=ctT (ahN n) ++ (n.text ++ (atT ((beN n).getD 0 N0) ++ ([32,119,104,101,114,101,32] ++ brB ((beN n).drop 1))))
def ptD (n:N):List UInt8 :=
 if n.kind = 31∨n.kind = 32 then ptB n
 else if n.kind = 33 then [100,97,116,97,32] ++ (n.text ++ (((ahN n).map atT).flatten ++ ([32,61,32] ++ Lib.join ((beN n).map ptT) [32,124,32])))
 else if n.kind = 35 then [99,108,97,115,115,32] ++ hdT n
 else [105,110,115,116,97,110,99,101,32] ++ hdT n
def ptG (n:N):List UInt8:=(n.kids.map fun x=>ptD x ++ [59,10]).flatten
inductive DeQ (n:N):Prop
 | bind (h:n.kind = 31) (h1:biW n = true)
 | sig (h:n.kind = 32) (h1:sgW n = true)
 | data (h:n.kind = 33) (h1:conW n.text = true) (h2:n.kids = ahN n ++ beN n) (h3:((ahN n).length:Int) = n.num) (h4:beN n≠[]) (h5:∀ x∈ahN n,vaW x = true) (h6:∀ x∈beN n,cnW x = true)
 | cls (h:n.kind = 35) (h1:conW n.text = true) (h2:n.kids = ahN n ++ (beN n).getD 0 N0 :: (beN n).drop 1) (h3:((ahN n).length:Int) = n.num) (h5:∀ x∈ahN n,prW x = true) (h6:vaW ((beN n).getD 0 N0) = true) (h7:∀ x∈(beN n).drop 1,sgW x = true)
 | inst (h:n.kind = 36) (h1:conW n.text = true) (h2:n.kids = ahN n ++ (beN n).getD 0 N0 :: (beN n).drop 1) (h3:((ahN n).length:Int) = n.num) (h5:∀ x∈ahN n,prW x = true) (h6:tyW ((beN n).getD 0 N0) = true) (h7:∀ x∈(beN n).drop 1,biW x = true)
theorem qzb {n:N} (h:deW n = true):DeQ n:=by
 unfold deW at h
 by_cases h1:n.kind = 31
 ·rw [if_pos h1] at h;exact .bind h1 h
 rw [if_neg h1] at h
 by_cases h2:n.kind = 32
 ·rw [if_pos h2] at h;exact .sig h2 h
 rw [if_neg h2] at h
 simp only [Bool.and_eq_true,Bool.not_eq_true',decide_eq_false_iff_not] at h
 obtain ⟨⟨⟨hc,h3⟩,h4⟩,h5⟩:=h
 have hlt:n.num.toNat < n.kids.length:=by omega
 have hl:((ahN n).length:Int) = n.num:=by rw [ahN,List.length_take];omega
 have hb:beN n = n.kids.getD n.num.toNat N0 :: n.kids.drop (n.num + 1).toNat:=by
  rw [beN,qo2 hlt,show (n.num + 1).toNat = n.num.toNat + 1 by omega]
 have hk:n.kids = ahN n ++ beN n:=(List.take_append_drop _ _).symm
 have hb0:(beN n).getD 0 N0 = n.kids.getD n.num.toNat N0:=by rw [hb];rfl
 have hb1:(beN n).drop 1 = n.kids.drop (n.num + 1).toNat:=by rw [hb];rfl
 have hb':beN n = (beN n).getD 0 N0 :: (beN n).drop 1:=by rw [hb0,hb1];exact hb
 by_cases k3:n.kind = 33
 ·rw [if_pos k3] at h5
  simp only [Bool.and_eq_true,List.all_eq_true] at h5
  refine .data k3 hc hk hl (by rw [hb];simp) h5.1.1 fun x hx=>?_
  rw [hb] at hx
  rcases List.mem_cons.1 hx with rfl | hx
  ·exact h5.1.2
  ·exact h5.2 x hx
 rw [if_neg k3] at h5
 by_cases k4:n.kind = 35
 ·rw [if_pos k4] at h5
  simp only [Bool.and_eq_true,List.all_eq_true] at h5
  exact .cls k4 hc (hb' ▸ hk) hl h5.1.1 (by rw [hb0];exact h5.1.2) (by rw [hb1];exact h5.2)
 rw [if_neg k4] at h5
 by_cases k5:n.kind = 36
 ·rw [if_pos k5] at h5
  simp only [Bool.and_eq_true,List.all_eq_true] at h5
  exact .inst k5 hc (hb' ▸ hk) hl h5.1.1 (by rw [hb0];exact h5.1.2) (by rw [hb1];exact h5.2)
 ·rw [if_neg k5] at h5;cases h5
theorem qbas {n:N} (h:vaW n = true):n.kind = 1∧tyW n = true:=by
 simpa [vaW] using h
theorem qzy {n:N} (h:cnW n = true):n.kind = 34∧n.num = 0∧conW n.text = true∧∀ x∈n.kids,tyW x = true:=by
 simp only [cnW,qdu,Bool.and_eq_true,decide_eq_true_eq,List.all_eq_true] at h
 exact ⟨h.1.1,h.1.2.1,h.1.2.2,h.2⟩

attribute [go_sem] cond_true cond_false
end Go.Proofs.Ytlmcofjcpadmiaa
/-
 The shelf's contracts over this program, laid as plain text by the kit's lay-plain.
-/
namespace Go.Proofs
open Go.Shelf
def Try.lays156_ren:Go.Shelf.Ren:=⟨fun | 156=>49 | 165=>64 | 166=>65 | 169=>66 | 240=>69 | 241=>70 | 276=>71 | 277=>72 | n=>n,fun | 31=>49 | 9=>9 | 3=>3 | 4=>4 | 0=>0 | 20=>20 | 72=>59 | 76=>63 | 70=>56 | 37=>57 | 75=>62 | 127=>67 | 164=>68 | 5=>5 | 80=>48 | n=>n,fun | n=>n⟩
theorem Try.lays156:Go.Proofs.Lays.n156 Try.prog Try.lays156_ren:={
 mixed:=by kernel_rfl
 f156:=Try.func49.trans (congrArg some (by kernel_rfl))
 f165:=Try.func64.trans (congrArg some (by kernel_rfl))
 f166:=Try.func65.trans (congrArg some (by kernel_rfl))
 f169:=Try.func66.trans (congrArg some (by kernel_rfl))
 f240:=Try.func69.trans (congrArg some (by kernel_rfl))
 f241:=Try.func70.trans (congrArg some (by kernel_rfl))
 f276:=Try.func71.trans (congrArg some (by kernel_rfl))
 f277:=Try.func72.trans (congrArg some (by kernel_rfl))
 t0:=Try.underlying0
 a0:=Try.isAgg0
 z0:=Try.sizeOf0
 v0:=Try.zeroValue0
 t3:=Try.underlying3
 a3:=Try.isAgg3
 z3:=Try.sizeOf3
 v3:=Try.zeroValue3
 t4:=Try.underlying4
 a4:=Try.isAgg4
 z4:=Try.sizeOf4
 v4:=Try.zeroValue4
 t9:=Try.underlying9
 a9:=Try.isAgg9
 z9:=Try.sizeOf9
 v9:=Try.zeroValue9
 t20:=Try.underlying20
 a20:=Try.isAgg20
 z20:=Try.sizeOf20
 v20:=Try.zeroValue20
 t31:=Try.underlying49
 a31:=Try.isAgg49
 z31:=Try.sizeOf49
 v31:=Try.zeroValue49
 t37:=Try.underlying57
 a37:=Try.isAgg57
 z37:=Try.sizeOf57
 v37:=Try.zeroValue57
 t70:=Try.underlying56
 a70:=Try.isAgg56
 z70:=Try.sizeOf56
 v70:=Try.zeroValue56
 t72:=Try.underlying59
 a72:=Try.isAgg59
 z72:=Try.sizeOf59
 v72:=Try.zeroValue59
 t75:=Try.underlying62
 a75:=Try.isAgg62
 z75:=Try.sizeOf62
 v75:=Try.zeroValue62
 t76:=Try.underlying63
 a76:=Try.isAgg63
 z76:=Try.sizeOf63
 v76:=Try.zeroValue63
 t127:=Try.underlying67
 a127:=Try.isAgg67
 z127:=Try.sizeOf67
 v127:=Try.zeroValue67
 t164:=Try.underlying68
 a164:=Try.isAgg68
 z164:=Try.sizeOf68
 v164:=Try.zeroValue68 }
theorem Try.Builder_Extra_156:Builder.Extra Try.prog Try.lays156_ren:={
 sizeBuilder:=by kernel_rfl
 liesBuilder:=by kernel_rfl
 t5:=Try.underlying5
 a5:=Try.isAgg5
 z5:=Try.sizeOf5
 v5:=Try.zeroValue5
 infoByte:=by kernel_rfl
 cellsByte:=by kernel_rfl
 sizeByte:=by kernel_rfl
 neB5:=by decide }
open Go.RowKit in
theorem Try.strings_Join_none (a:Option Addr) (c:Nat) (sep:ByteArray) (w:World) :
 Calls Try.prog 49 #[.slice a 0 c,.string sep] w fun e w'=>e = .returned (.string ⟨#[]⟩)∧w' = w:=Any.strings_Join_none Try.lays156 Try.Builder_Extra_156 a c sep w
open Go.RowKit in
theorem Try.strings_Join (bk o c:Nat) (xs:List ByteArray) (sep:ByteArray) (w:World) (hcells:∀ (j:Nat) x,xs[j]? = some x->w.cell? ⟨bk,o + j,none⟩ = some (.string x)) (hbk:bk < w.heap.size) (hN:xs.length≤140737488355328) (hcap:xs.length≤c) (hlen:(Lib.join (xs.map (·.data.toList)) sep.data.toList).length≤140737488355328) :
 Calls Try.prog 49 #[.slice (some ⟨bk,o,none⟩) xs.length c,.string sep] w fun e w'=>e = .returned (.string ⟨(Lib.join (xs.map (·.data.toList)) sep.data.toList).toArray⟩)∧Below w.heap.size w w':=Any.strings_Join Try.lays156 Try.Builder_Extra_156 bk o c xs sep w hcells hbk hN hcap hlen

end Go.Proofs

/- the lexer's words: with a space between -/
namespace Go.Proofs.Ytlmcofjcpadmiaa
open Go Go.RowKit Go.V

theorem strings_Join {ls:List (List UInt8)} {sep:List UInt8} (hn:ls.length≤140737488355328) (hl:(Lib.join ls sep).length≤140737488355328):qm Try.prog 49 [.sl 1 (ls.map AV.str),.str sep] (.str (Lib.join ls sep)) :=
 qru (by kernel_rfl) Try.strings_Join_none Try.strings_Join hn hl
set_option maxRecDepth 4000

def Big:Nat:=140737488355328
theorem qf6:Big + 1000≤maxLen:=by unfold Big maxLen;omega
theorem qbb (b:Bool) (s:List UInt8):s.length≤(cloW b s).length∧(cloW b s).length≤s.length + 2:=by
 unfold cloW
 split
 ·omega
 ·simp only [List.length_cons,List.length_append,List.length_nil];omega
theorem qcj {m:List UInt8}:∀ {l:List (List UInt8)} {x:List UInt8},x∈l->x.length≤(Lib.join l m).length
 | [a], x, h => by
   simp only [List.mem_singleton] at h
   subst h
   rw [qgb];exact Nat.le_refl _
 | a :: b :: r, x, h => by
   rw [qff,List.length_append,List.length_append]
   rcases List.mem_cons.1 h with rfl | h
   ·omega
   ·have:=qcj (m:=m) h;omega
theorem qdn (l:List (List UInt8)):Lib.join l [] = l.flatten:=by
 induction l with
 | nil=>rfl
 | cons a l ih => cases l with
   | nil=>rw [qgb];simp
   | cons b r=>rw [qff,ih];simp
theorem qcc (n:N):qm Try.prog 56 [enc n] (.bool (qn n)):=by
 refine qh c0s (by simp) (by simp only [go_sem]) rfl fun hw=>?_
 have e:qn n = decide ((n.kids.length:Int) = 0):=by
  rw [qn]
  cases n.kids with
  | nil=>rfl
  | cons _ _=>symm;simp;omega
 rw [e]
 repeat' (first | refine vs_ ?_ | ((first | refine vr_ ?_ | (refine cs_ ?_ ?_<;>intro hc) | refine cj_ ?_ | fail)<;>(try refine ev_ ?_)) | with_reducible exact ti_)
theorem qb8 {x:AV} {s:List UInt8} {b:Bool} (hx:x.bd 0 = true) (h:qm Try.prog 28 [x] (.str s)) (hl:s.length + 2≤Big):qm Try.prog 52 [x,.bool b] (.str (cloW b s)):=by
 refine qh c0t (by simp) (by simp only [AV.bds,hx];rfl) rfl fun hw=>?_
 have hM:=qf6
 cases b with
 | true =>
   repeat' (first | refine vs_ ?_ | ((first | refine vr_ ?_ | refine qa h fun _=>?_ | (refine cs_ ?_ ?_<;>intro hc) | refine cj_ ?_ | simp (disch:=omega) only [qd,qo])<;>(try refine ev_ ?_)) | with_reducible exact ti_)
   rfl
 | false =>
   repeat' (first | refine vs_ ?_ | ((first | refine vr_ ?_ | fail)<;>(try simp only [List.length_append,go_sem,↓reduceIte])) | ((first | (refine cs_ ?_ ?_<;>intro hc) | refine cj_ ?_ | simp (disch:=omega) only [qd,qo] | refine qa h fun _=>?_)<;>(try refine ev_ ?_)) | with_reducible exact ti_)
   rfl
def qgg (g:N->List UInt8) (l:List N) (i:Nat):List AV:=((l.take i).map fun x=>AV.str (g x)) ++ List.replicate (l.length - i) (.str [])
theorem qux {g:N->List UInt8} {l:List N} {i:Nat} (h:i≤l.length):(qgg g l i).length = l.length:=by
 rw [qgg,List.length_append,List.length_map,List.length_take,List.length_replicate];omega
theorem qsw {g:N->List UInt8} {l:List N} {i:Nat} (h:i < l.length):(qgg g l i).set i (.str (g (l.getD i N0))) = qgg g l (i + 1):=by
 have hk:((l.take i).map fun x=>AV.str (g x)).length = i:=by rw [List.length_map,List.length_take];omega
 obtain ⟨k,hk2⟩:∃ k,l.length - i = k + 1:=⟨l.length - i - 1,by omega⟩
 have hk3:l.length - (i + 1) = k:=by omega
 rw [qgg,qgg,List.set_append_right _ _ (by omega),hk,Nat.sub_self,hk2,hk3,List.replicate_succ,List.set_cons_zero,q2u h,List.map_append]
 simp
theorem qst (g:N->List UInt8) (l:List N):qgg g l l.length = (l.map g).map AV.str:=by
 rw [qgg,Nat.sub_self,List.take_length];simp
theorem qlo (k:Nat) (g:N->List UInt8) (l:List N) (i:Nat):AV.bds k (qgg g l i) = true:=by
 rw [qgg,qkg,List.all_append,List.all_map,List.all_replicate]
 simp [AV.bd]
theorem qmi (σ:Nat->Nat) (g:N->List UInt8) (l:List N) (i:Nat):AV.rens σ (qgg g l i) = qgg g l i:=qw (m:=0) (fun i hi=>by omega) _ (qlo 0 g l i)
theorem q7 {so:FuncId} {g:N->List UInt8} {l:List N} {m:List UInt8} (h:∀ x∈l,qm Try.prog so [enc x] (.str (g x))) (hl:(Lib.join (l.map g) m).length≤Big) (hn:l.length≤1000000) :
 qm Try.prog 31 [.sl 5 (encs l),.str m,.fn so [] []] (.str (Lib.join (l.map g) m)):=by
 refine qh c0u (by simp) (by simp only [go_sem]) rfl fun hw=>?_
 repeat' (first | refine vs_ ?_ | ((first | refine vr_ ?_ | (refine cs_ ?_ ?_<;>intro hc) | refine cj_ ?_ | simp (disch:=omega) only [qd,qo])<;>(try refine ev_ ?_)) | with_reducible exact ti_)
 refine ⟨⟨by omega,by unfold maxLen;omega⟩,?_⟩
 repeat' (first | refine vs_ ?_ | ((first | refine vr_ ?_ | (refine cs_ ?_ ?_<;>intro hc) | refine cj_ ?_ | simp (disch:=omega) only [qd,qo])<;>(try refine ev_ ?_)) | with_reducible exact ti_)
 refine qfb (S:=Nat) (fun i=>i≤l.length) (fun i=>(⟨[(1,.str m),(2,.fn so [] []),(7,.row 0 l.length),(13,.sl 5 (encs l)),(14,.int .i64 l.length),(15,.int .i64 i)],[]⟩,[.mrow 1 (qgg g l i)])) (fun i=>l.length - i) ?_ fun i hi=>?_
 ·refine qfp 0 [0] (Nat.zero_le _) rfl (by simp) ?_ ?_ ?_<;>(try refine ev_ ?_)<;>(try with_reducible exact ti_)<;>(try simp (disch:=omega) only [qo,and_true,true_and])
  exact ⟨qlo _ _ _ _,by rw [qmi,qgg,List.take_zero,Nat.sub_zero];rfl⟩
 ·have hpl:=qux (g:=g) hi
  by_cases hlt:i < l.length
  ·have hset:=qsw (g:=g) hlt
   repeat' (first | refine vs_ ?_ | ((first | refine vr_ ?_ | fail)<;>(try simp (disch:=first | omega | (simp only [List.length_set,List.length_append,List.length_cons,List.length_nil];done) | (simp only [List.length_set,List.length_append,List.length_cons,List.length_nil];omega)) only [qo,hpl,go_sem,↓reduceIte])) | ((first | (refine cs_ ?_ ?_<;>intro hc) | refine cj_ ?_ | simp (disch:=omega) only [qd,qo] | refine qa (h _ (qe hlt)) fun _=>?_)<;>(try refine ev_ ?_)) | with_reducible exact ti_)
   all_goals try (exfalso;omega)
   refine qfp (i + 1) [0] ⟨by omega,by omega⟩ rfl (by simp) ?_ ?_ ?_<;>(try refine ev_ ?_)<;>(try with_reducible exact ti_)<;>(try simp (disch:=omega) only [qo,and_true,true_and])
   ·exact ⟨qlo _ _ _ _,by rw [qmi,← hset]⟩
   ·rw [qv4 (by omega) (by omega),Int.natCast_add];rfl
  ·have hie:i = l.length:=by omega
   subst hie
   have hend:=qst g l
   rw [hend] at hpl ⊢
   refine q91 0 rfl (by simp [AV.isAgg,AV.leaf,AV.cells]) ?_
   simp only [List.set_cons_zero]
   have hj:=strings_Join (ls:=l.map g) (sep:=m) (by simp;omega) hl
   repeat' (first | refine vs_ ?_ | ((first | refine vr_ ?_ | fail)<;>(try simp only [hpl,go_sem,↓reduceIte])) | ((first | (refine cs_ ?_ ?_<;>intro hc) | refine cj_ ?_ | simp (disch:=omega) only [qd,qo] | refine qa hj fun _=>?_)<;>(try refine ev_ ?_)) | with_reducible exact ti_)
   all_goals try (exfalso;omega)
/-! types -/
def PT (n:N):Prop:=qm Try.prog 28 [.iface 41 (enc n)] (.str (ptT n))
theorem qg4 {t:TypeId} (n:N):(AV.iface t (enc n)).bd 0 = true:=by simp only [AV.bd,qoa]
theorem qcf {n:N} (h:PT n) (hl:(ptT n).length + 2≤Big):qm Try.prog 53 [enc n] (.str (atT n)):=by
 refine qh c0v (by simp) (by simp only [go_sem]) rfl fun hw=>?_
 have hM:=qf6
 have h1:=qb8 (b:=qn n) (qg4 n) h hl
 have h2:=qbb (qn n) (ptT n)
 repeat' (first | refine vs_ ?_ | ((first | refine vr_ ?_ | refine qa (qcc n) fun _=>?_ | refine qa h1 fun _=>?_ | refine qc (qcc n) ?_ | refine qc h1 ?_ | (refine cs_ ?_ ?_<;>intro hc) | refine cj_ ?_ | simp (disch:=omega) only [qd,qo])<;>(try refine ev_ ?_)) | with_reducible exact ti_)
 all_goals rfl
theorem qpy {l:List N} {f:N->List UInt8} {x:N} (h:x∈l):(f x).length≤(l.map f).flatten.length:=by
 rw [← qdn]
 exact qcj (List.mem_map_of_mem h)
theorem qpi {n x:N} (ht:n.kind≠1->n.text = arW->n.kids.length = 2) (h:x∈n.kids):(ptT x).length + 1≤(ptT n).length:=by
 rw [qfs n]
 by_cases ha:n.kind≠1∧n.text = arW
 ·rw [if_pos ha]
  have h2:=ht ha.1 ha.2
  have hk:=qsc h2
  have hc:=(qbb (!decide ((n.kids.getD 0 N0).text = arW)) (ptT (n.kids.getD 0 N0))).1
  simp only [List.length_append,List.length_cons,List.length_nil]
  rw [hk] at h
  simp only [List.mem_cons,List.not_mem_nil,or_false] at h
  rcases h with rfl | rfl<;>omega
 ·rw [if_neg ha,List.length_append]
  have h1:=qpy (f:=atT) h
  have h2:=(qbb (qn x) (ptT x)).1
  have h3:(atT x).length = (cloW (qn x) (ptT x)).length + 1:=rfl
  omega
set_option maxHeartbeats 1000000 in
theorem qi9 {n:N} (ht:n.kind≠1->n.text = arW->n.kids.length = 2) (ih:∀ x∈n.kids,PT x) (hl:(ptT n).length + 2≤Big) (hs:n.kids.length≤1000000):qm Try.prog 43 [enc n] (.str (ptT n)):=by
 refine qh c0w (by simp) (by simp only [go_sem]) rfl fun hw=>?_
 have hM:=qf6
 have hkid:∀ x∈n.kids,(ptT x).length + 2≤Big:=fun x hx=>by have:=qpi ht hx;omega
 by_cases h1:n.kind = 1
 ·have he:ptT n = n.text ++ Lib.join (n.kids.map atT) []:=by rw [qfs,if_neg (fun h=>h.1 h1),qdn]
  have hj:=q7 (m:=[]) (fun x hx=>qcf (ih x hx) (hkid x hx)) (by rw [he,List.length_append] at hl;omega) hs
  rw [he] at hl ⊢
  rw [List.length_append] at hl
  repeat' (first | refine vs_ ?_ | ((first | refine vr_ ?_ | fail)<;>(try simp only [h1,decide_true,Bool.not_true,go_sem,↓reduceIte])) | ((first | (refine cs_ ?_ ?_<;>intro hc) | refine cj_ ?_ | simp (disch:=omega) only [qd,qo] | refine qa hj fun _=>?_ | refine qc hj ?_)<;>(try refine ev_ ?_)) | with_reducible exact ti_)
  all_goals try (exfalso;revert hc;simp;done)
 by_cases h2:n.text = [45,62]
 ·have hk:=qsc (ht h1 h2)
  have hlen:=ht h1 h2
  have m0:n.kids.getD 0 N0∈n.kids:=qe (by omega)
  have m1:n.kids.getD 1 N0∈n.kids:=qe (by omega)
  have he:ptT n = cloW (!decide ((n.kids.getD 0 N0).text = [45,62])) (ptT (n.kids.getD 0 N0)) ++ ([32,45,62,32] ++ ptT (n.kids.getD 1 N0)):=by rw [qfs,if_pos ⟨h1,h2⟩];rfl
  have hc0:=qb8 (b:=!decide ((n.kids.getD 0 N0).text = [45,62])) (qg4 (n.kids.getD 0 N0)) (ih _ m0) (hkid _ m0)
  have ht1:=ih _ m1
  unfold PT at ht1
  have g0:(encs n.kids).getD 0 .junk = enc (n.kids.getD 0 N0):=qd (by omega)
  have g1:(encs n.kids).getD 1 .junk = enc (n.kids.getD 1 N0):=qd (by omega)
  rw [he] at hl ⊢
  simp only [List.length_append,List.length_cons,List.length_nil] at hl
  repeat' (first | refine vs_ ?_ | ((first | refine vr_ ?_ | fail)<;>(try simp only [h1,h2,g0,g1,List.length_append,go_sem,↓reduceIte])) | ((first | (refine cs_ ?_ ?_<;>intro hc) | refine cj_ ?_ | simp (disch:=omega) only [qd,qo] | refine qa hc0 fun _=>?_ | refine qa ht1 fun _=>?_ | refine qc hc0 ?_ | refine qc ht1 ?_)<;>(try refine ev_ ?_)) | with_reducible exact ti_)
 ·have he:ptT n = n.text ++ Lib.join (n.kids.map atT) []:=by rw [qfs,if_neg (fun h=>h2 h.2),qdn]
  have hj:=q7 (m:=[]) (fun x hx=>qcf (ih x hx) (hkid x hx)) (by rw [he,List.length_append] at hl;omega) hs
  rw [he] at hl ⊢
  rw [List.length_append] at hl
  repeat' (first | refine vs_ ?_ | ((first | refine vr_ ?_ | fail)<;>(try simp only [h1,h2,go_sem,↓reduceIte])) | ((first | (refine cs_ ?_ ?_<;>intro hc) | refine cj_ ?_ | simp (disch:=omega) only [qd,qo] | refine qa hj fun _=>?_ | refine qc hj ?_)<;>(try refine ev_ ?_)) | with_reducible exact ti_)
theorem qv9 {n:N} (h:tyW n = true) (h1:n.kind≠1) (h2:n.text = arW):n.kids.length = 2:=(qdy h ⟨h1,h2⟩).1
theorem qs2 {n:N} (h:tyW n = true):∀ x∈n.kids,tyW x = true:=by
 by_cases ha:n.kind≠1∧n.text = arW
 ·obtain ⟨h2,t0,t1⟩:=qdy h ha
  intro x hx
  rw [qsc h2] at hx
  simp only [List.mem_cons,List.not_mem_nil,or_false] at hx
  rcases hx with rfl | rfl
  ·exact t0
  ·exact t1
 ·exact (qf0 h ha).2.2
theorem qp5 {n:N} (h:qm Try.prog 43 [enc n] (.str (ptT n))):PT n:=by
 refine qh c0m (by simp) (by simp only [AV.bds,qg4];rfl) rfl fun hw=>?_
 repeat' (first | refine vs_ ?_ | ((first | refine vr_ ?_ | refine qa h fun _=>?_ | (refine cs_ ?_ ?_<;>intro hc) | refine cj_ ?_ | fail)<;>(try refine ev_ ?_)) | with_reducible exact ti_)
theorem qfa {n x:N} (h:x∈n.kids):sz x + 1≤sz n:=by
 rw [qfc n];have:=qpo h;omega
theorem qiy (n:N):n.kids.length + 1≤sz n:=by rw [qfc];have:=qvt n.kids;omega
theorem qby:∀ n,tyW n = true->sz n≤1000000->(ptT n).length + 2≤Big->PT n:=N.ind fun n ih ht hs hl=>qp5 (qi9 (qv9 ht) (fun x hx=>ih x hx (qs2 ht x hx) (by have:=qfa hx;omega) (by have:=qpi (qv9 ht) hx;omega)) hl (by have:=qiy n;omega))
theorem qnl {n:N} (h:cnW n = true) (hs:sz n≤1000000) (hl:(ptT n).length + 2≤Big):PT n:=by
 obtain ⟨_,_,h3,h4⟩:=qzy h
 have hne:n.kind≠1->n.text = arW->n.kids.length = 2:=fun _ e=>by
  rw [e] at h3
  exact absurd h3 (by decide)
 exact qp5 (qi9 hne (fun x hx=>qby x (h4 x hx) (by have:=qfa hx;omega) (by have:=qpi hne hx;omega)) hl (by have:=qiy n;omega))
/-! contexts -/
theorem qhr {n:N} (h:prW n = true) (hs:sz n≤1000000) (hl:(prT n).length + 2≤Big):qm Try.prog 67 [enc n] (.str (prT n)):=by
 obtain ⟨p1,p2,p3,p4,p5⟩:=qfk h
 refine qh c0x (by simp) (by simp only [go_sem]) rfl fun hw=>?_
 have hM:=qf6
 have m0:n.kids.getD 0 N0∈n.kids:=qe (by omega)
 have g0:(encs n.kids).getD 0 .junk = enc (n.kids.getD 0 N0):=qd (by omega)
 have hk:=qfa m0
 have hc:=(qbb (qn (n.kids.getD 0 N0)) (ptT (n.kids.getD 0 N0))).1
 have hl2:(atT (n.kids.getD 0 N0)).length = (cloW (qn (n.kids.getD 0 N0)) (ptT (n.kids.getD 0 N0))).length + 1:=rfl
 rw [prT,List.length_append] at hl
 have ha:=qcf (qby _ p5 (by omega) (by omega)) (by omega)
 rw [prT]
 repeat' (first | refine vs_ ?_ | ((first | refine vr_ ?_ | fail)<;>(try simp only [g0,p4,go_sem,↓reduceIte])) | ((first | (refine cs_ ?_ ?_<;>intro hc) | refine cj_ ?_ | simp (disch:=omega) only [qd,qo] | refine qa ha fun _=>?_ | refine qc ha ?_)<;>(try refine ev_ ?_)) | with_reducible exact ti_)
theorem qdg {l:List N} (h:∀ x∈l,prW x = true∧sz x≤1000000) (hn:l.length≤1000000) (hl:(ctT l).length + 2≤Big):qm Try.prog 50 [.sl 5 (encs l)] (.str (ctT l)):=by
 refine qh c0y (by simp) (by simp only [go_sem]) rfl fun hw=>?_
 have hM:=qf6
 have hj2:(Lib.join (l.map prT) cmW).length + 2≤Big:=by
  by_cases h0:l = []
  ·subst h0;simp [Lib.join,List.intercalate,Big]
  ·rw [ctT,if_neg h0,List.length_append] at hl
   have:=(qbb (decide (l.length = 1)) (Lib.join (l.map prT) cmW)).1
   omega
 have hj:=q7 (g:=prT) (m:=[44,32]) (fun x hx=>qhr (h x hx).1 (h x hx).2 (by
  have:=qcj (m:=cmW) (List.mem_map_of_mem (f:=prT) hx)
  omega)) (by show (Lib.join (l.map prT) cmW).length≤Big;omega) hn
 have hj:qm Try.prog 31 [.sl 5 (encs l),.str [44,32],.fn 67 [] []] (.str (Lib.join (l.map prT) cmW)):=hj
 rw [ctT] at hl ⊢
 by_cases h0:l = []
 ·subst h0
  repeat' (first | refine vs_ ?_ | ((first | refine vr_ ?_ | refine qa hj fun _=>?_ | (refine cs_ ?_ ?_<;>intro hc) | refine cj_ ?_ | simp (disch:=omega) only [qd,qo])<;>(try refine ev_ ?_)) | with_reducible exact ti_)
 rw [if_neg h0,List.length_append] at hl
 rw [if_neg h0]
 have h0':(l.length:Int)≠0:=fun e=>h0 (List.length_eq_zero_iff.1 (by omega))
 by_cases h1:l.length = 1
 ·rw [decide_eq_true h1] at hl ⊢
  rw [cloW,if_pos rfl] at hl ⊢
  simp only [List.length_cons,List.length_nil] at hl
  repeat' (first | refine vs_ ?_ | ((first | refine vr_ ?_ | fail)<;>(try simp only [h1,List.length_append,go_sem,↓reduceIte])) | ((first | (refine cs_ ?_ ?_<;>intro hc) | refine cj_ ?_ | simp (disch:=omega) only [qd,qo] | refine qa hj fun _=>?_)<;>(try refine ev_ ?_)) | with_reducible exact ti_)
  all_goals (exfalso;revert hc;decide)
 ·rw [decide_eq_false h1] at hl ⊢
  rw [cloW,if_neg Bool.false_ne_true] at hl ⊢
  simp only [List.length_cons,List.length_nil,List.length_append] at hl
  have h1':(l.length:Int)≠1:=by omega
  repeat' (first | refine vs_ ?_ | ((first | refine vr_ ?_ | fail)<;>(try simp only [h0',h1',List.length_append,go_sem,↓reduceIte])) | ((first | (refine cs_ ?_ ?_<;>intro hc) | refine cj_ ?_ | simp (disch:=omega) only [qd,qo] | refine qa hj fun _=>?_)<;>(try refine ev_ ?_)) | with_reducible exact ti_)
  all_goals try (exfalso;omega)
theorem qhn {n:N} (h:quW n = true) (hs:sz n≤1000000) (hl:(quT n).length + 4≤Big):qm Try.prog 34 [enc n] (.str (quT n)):=by
 obtain ⟨q1,q2,q3,q4,q5,q6⟩:=qgm h
 refine qh c0z (by simp) (by simp only [go_sem]) rfl fun hw=>?_
 have hM:=qf6
 have hkl:=qiy n
 have hpos:0 < n.kids.length:=by rw [q4];simp
 have hmt:qgk n∈n.kids:=by rw [q4];simp
 have hma:∀ x∈qc4 n,x∈n.kids:=fun x hx=>by rw [q4];simp [hx]
 have he:quT n = ctT (qc4 n) ++ ptT (qgk n):=rfl
 rw [he,List.length_append] at hl
 rw [he]
 have hc:=qdg (l:=qc4 n) (fun x hx=>⟨q5 x hx,by have:=qfa (hma x hx);omega⟩) (by rw [qc4,List.length_take];omega) (by omega)
 have ht:=qby (qgk n) q6 (by have:=qfa hmt;omega) (by omega)
 unfold PT at ht
 have e1:((n.kids.length:Int) - 1).toNat = n.kids.length - 1:=by omega
 have g0:(encs n.kids).getD (n.kids.length - 1) .junk = enc (qgk n):=qd (by omega)
 have g1:(encs n.kids).take (n.kids.length - 1) = encs (qc4 n):=qd1 _ _
 have hwr:IntKind.i64.wrap ((n.kids.length:Int) - 1) = (n.kids.length:Int) - 1:=qv4 (by omega) (by omega)
 have ht':qm Try.prog 28 [.iface 41 (enc (n.kids.getD ((n.kids.length:Int) - 1).toNat N0))] (.str (ptT (qgk n))):=by rw [e1];exact ht
 repeat' (first | refine vs_ ?_ | ((first | refine vr_ ?_ | fail)<;>(try simp only [hwr,e1,g0,g1,go_sem,↓reduceIte])) | ((first | (refine cs_ ?_ ?_<;>intro hc) | refine cj_ ?_ | simp (disch:=omega) only [qd,qo] | refine qa hc fun _=>?_ | refine qa ht' fun _=>?_ | refine qc hc ?_ | refine qc ht' ?_)<;>(try refine ev_ ?_)) | with_reducible exact ti_)
/-! patterns -/
def PP (n:N):Prop:=qm Try.prog 28 [.iface 44 (enc n)] (.str (ptP n))
theorem qzg {n:N} (h:qm Try.prog 44 [enc n] (.str (ptP n))):PP n:=by
 refine qh c0m (by simp) (by simp only [AV.bds,qg4];rfl) rfl fun hw=>?_
 repeat' (first | refine vs_ ?_ | ((first | refine vr_ ?_ | refine qa h fun _=>?_ | (refine cs_ ?_ ?_<;>intro hc) | refine cj_ ?_ | fail)<;>(try refine ev_ ?_)) | with_reducible exact ti_)
theorem qnq {n:N} (h:PP n) (hl:(ptP n).length + 2≤Big):qm Try.prog 55 [enc n] (.str (atP n)):=by
 refine qh c0ba (by simp) (by simp only [go_sem]) rfl fun hw=>?_
 have hM:=qf6
 have h1:=qb8 (b:=qn n) (qg4 n) h hl
 have h2:=qbb (qn n) (ptP n)
 repeat' (first | refine vs_ ?_ | ((first | refine vr_ ?_ | refine qa (qcc n) fun _=>?_ | refine qa h1 fun _=>?_ | refine qc (qcc n) ?_ | refine qc h1 ?_ | (refine cs_ ?_ ?_<;>intro hc) | refine cj_ ?_ | simp (disch:=omega) only [qd,qo])<;>(try refine ev_ ?_)) | with_reducible exact ti_)
 all_goals rfl
theorem qmc {n:N} (h:paW n = true):∀ x∈n.kids,paW x = true∧n.kind = 14:=by
 rcases qdc h with ⟨_,_,h,_⟩ | ⟨_,_,h,_⟩ | ⟨_,_,h,_⟩ | ⟨h0,h1,h2,h3⟩
 ·rw [h];intro x hx;cases hx
 ·rw [h];intro x hx;cases hx
 ·rw [h];intro x hx;cases hx
 ·exact fun x hx=>⟨h2 x hx,h0⟩
theorem qwk {n x:N} (hk:n.kind = 14) (h:x∈n.kids):(ptP x).length + 1≤(ptP n).length:=by
 rw [qhf n,if_neg (by omega),if_neg (by omega),List.length_append]
 have h1:=qpy (f:=atP) h
 have h2:=(qbb (qn x) (ptP x)).1
 have h3:(atP x).length = (cloW (qn x) (ptP x)).length + 1:=rfl
 omega
theorem qhg:∀ n,paW n = true->sz n≤1000000->(ptP n).length + 2≤Big->PP n:=N.ind fun n ih ht hs hl=>by
 refine qzg (qh c0bb (by simp) (by simp only [go_sem]) rfl fun hw=>?_)
 have hM:=qf6
 have hkl:=qiy n
 by_cases h12:n.kind = 12
 ·have he:ptP n = [95]:=by rw [qhf,if_pos h12]
  rw [he]
  repeat' (first | refine vs_ ?_ | ((first | refine vr_ ?_ | fail)<;>(try simp only [h12,go_sem,↓reduceIte])) | ((first | (refine cs_ ?_ ?_<;>intro hc) | refine cj_ ?_ | simp (disch:=omega) only [qd,qo])<;>(try refine ev_ ?_)) | with_reducible exact ti_)
  all_goals (exfalso;revert hc;decide)
 by_cases h13:n.kind = 13
 ·have he:ptP n = digI n.num:=by rw [qhf,if_neg h12,if_pos h13]
  rw [he]
  repeat' (first | refine vs_ ?_ | ((first | refine vr_ ?_ | fail)<;>(try simp only [h13,go_sem,↓reduceIte])) | ((first | (refine cs_ ?_ ?_<;>intro hc) | refine cj_ ?_ | simp (disch:=omega) only [qd,qo] | refine qa (qgj n.num) fun _=>?_ | refine qc (qgj n.num) ?_)<;>(try refine ev_ ?_)) | with_reducible exact ti_)
  all_goals (exfalso;revert hc;decide)
 have he:ptP n = n.text ++ Lib.join (n.kids.map atP) []:=by rw [qhf,if_neg h12,if_neg h13,qdn]
 have hj:=q7 (g:=atP) (m:=[]) (fun x hx=>qnq (ih x hx (qmc ht x hx).1 (by have:=qfa hx;omega) (by have:=qwk (qmc ht x hx).2 hx;omega)) (by have:=qwk (qmc ht x hx).2 hx;omega)) (by rw [he,List.length_append] at hl;omega) (by omega)
 rw [he] at hl ⊢
 rw [List.length_append] at hl
 repeat' (first | refine vs_ ?_ | ((first | refine vr_ ?_ | fail)<;>(try simp only [h12,h13,go_sem,↓reduceIte])) | ((first | (refine cs_ ?_ ?_<;>intro hc) | refine cj_ ?_ | simp (disch:=omega) only [qd,qo] | refine qa hj fun _=>?_ | refine qc hj ?_)<;>(try refine ev_ ?_)) | with_reducible exact ti_)
end Go.Proofs.Ytlmcofjcpadmiaa
