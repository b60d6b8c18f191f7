/- A text of this proof. -/
import Derived.Shelf.Strings.IndexAnyAll
import Derived.Shelf.Small.Utf8
import Derived.Laws.Runes
import Derived.Laws.RangeAny
import Derived.WalkMore
import Derived.ScopeJumps
import Derived.Deep.RegionWith
import Derived.Shelf.RegionOpenPlain
import Derived.Lib.OthersKept
set_option linter.unusedVariables false
set_option linter.unusedSimpArgs false

/- IndexAny, of whatever text: runes that are no ASCII -/
namespace Go.V
open Go Go.Proofs Go.Shelf Go.RowKit Go.Lib
variable {P:Program} {ρ:Ren}

theorem qft:∀ {l:List UInt8} {c:UInt8},(∀ b∈l,b≠c)->Lib.indexByte l c = -1
 | [],_,_=>rfl
 | b :: l, c, h => by
   have h1:=qft (l:=l) (c:=c) fun x hx=>h x (by simp [hx])
   have h2:(b == c) = false:=beq_eq_false_iff_ne.2 (h b (by simp))
   simp [Lib.indexByte,h1,h2]
set_option maxHeartbeats 4000000 in
set_option maxRecDepth 1000000 in
theorem qsm (L:Lays.n152 P ρ) (s:ByteArray) (r:Int) (w:World) (h1:128≤r) (hss:s.size = 3) (hb:∀ b∈s.data.toList,b.toNat < 128) (hr:r≠65533) (hv:Utf8.valid r = true) :
 Calls P (ρ.f 152) #[.string s,.int .i32 r] w fun e w'=>e = .returned (.int .i64 (-1))∧(w' = w∨w' = w.drew.drew):=by
 have hv':Lib.validRune r = true:=by
  show Go.validRune r = true
  rw [← validRune_eq];exact hv
 obtain ⟨f1,f2,f3⟩:=encode_facts r hv h1
 obtain ⟨rs,hrs⟩:∃ rs,rs = Utf8.encode r:=⟨_,rfl⟩
 rw [← hrs] at f1 f2 f3
 have hcv:=fun (src dst:TypeId) (w:World) (hs:(P.underlying src).isSome = true) (hd:P.underlying dst = some .string)=>run_convert_int_string (P:=P) w src dst .i32 r hs hd
 rw [← hrs] at hcv
 clear hrs
 have f4:=f3 (by omega)
 clear f3
 have mixed:=L.mixed
 have t3:=L.t3;have a3:=L.a3;have z3:=L.z3;have v3:=L.v3
 have t4:=L.t4;have a4:=L.a4;have z4:=L.z4;have v4:=L.v4
 have t5:=L.t5;have a5:=L.a5;have z5:=L.z5;have v5:=L.v5
 have t9:=L.t9;have a9:=L.a9;have z9:=L.z9;have v9:=L.v9
 have t21:=L.t21;have a21:=L.a21;have z21:=L.z21;have v21:=L.v21
 have hc1:=fun w=>hcv (ρ.t 21) (ρ.t 9) w (by rw [t21];rfl) t9
 clear hcv
 have e137:∀ args w,(callFunc (ρ.f 137) args).run P w = .ok (.enter (ρ.f 137) args) w:=enters_of L.f137 (by kernel_rfl) rfl
 have e119:∀ args w,(callFunc (ρ.f 119) args).run P w = .ok (.enter (ρ.f 119) args) w:=enters_of L.f119 (by kernel_rfl) rfl
 have hlt:¬ r < 128:=by omega
 have hwr:IntKind.i64.wrap ((rs.size:Int) - 1) = (rs.size:Int) - 1:=wrap_small _ (by omega) (by omega)
 go_enter L.f152,Body.n152_ntmps ρ
 go_wp2_with (first
  | (go_at_fn (ρ.f 119);refine (Any.utf8_ValidRune { L with } r _).mono ?_;rintro e w' ⟨rfl,hw⟩;rw [hw,hv']))
 have u21:=run_underlying L.t21
 have u9:=run_underlying L.t9
 have hs21:(P.underlying (ρ.t 21)).isSome = true:=by rw [t21];rfl
 go_wp2
 go_step3
 go_wp2
 go_loopg [9] 0 (fun g s9 wx=>s9 = .int .i64 ((rs.size:Int) - 1)∧wx = w)
 case atStart=>exact ⟨rfl,rfl⟩
 case round =>
  obtain ⟨rfl,rfl⟩:=hrel
  by_cases h3:rs.size = 4
  ·have hn:¬ ((rs.size:Int) - 1 < (s.size:Int)):=by omega
   go_wp2
   go_ret
   exact ⟨rfl,.inl rfl⟩
  ·have hk:rs.size = 2∨rs.size = 3:=by omega
   rcases hk with hk | hk
   ·have f5:128≤(rs[1]'(by omega)).toNat:=by
     have:∀ j (hj:j < rs.size),j = rs.size - 1->128≤(rs[j]'hj).toNat:=fun j hj e=>by subst e;exact f4
     exact this 1 (by omega) (by omega)
    have hb2:(s[1]'(by omega)).toNat < 128:=hb _ (by
     have:=Lib.data_getElem? s 1 (by omega)
     exact List.mem_of_getElem? this)
    have hne:(((s[1]'(by omega)).toNat:Int) != ((rs[1]'(by omega)).toNat:Int)) = true:=by
     rw [bne_iff_ne];omega
    have hix:∀ a e:Nat,Lib.indexByte (s.extract a e).data.toList (rs[1]'(by omega)) = -1:=fun a e=>qft fun b hm hbc=>by
     have:=hb b (mem_extract hm)
     rw [hbc] at this;omega
    have hix0:Lib.indexByte (ByteArray.empty).data.toList (rs[1]'(by omega)) = -1:=rfl
    have hback:(((rs[1]'(by omega)).toNat:Int)).toNat.toUInt8 = rs[1]'(by omega):=by simp
    clear hb f4
    go_wp2
    go_step3
    go_wp2
    go_region_o
    go_wp2
    go_region_with_o (refine (Any.strings_IndexByte { L with } _ _ _).mono ?_;rintro e w' ⟨rfl,hw⟩;rw [hw,hback];first | rw [hix] | rw [hix0])
    all_goals go_wp2
    all_goals (simp only [go_sem,Exit.noGoto_ret])
    all_goals (go_ret;exact ⟨rfl,.inr rfl⟩)
   ·have f5:128≤(rs[2]'(by omega)).toNat:=by
     have:∀ j (hj:j < rs.size),j = rs.size - 1->128≤(rs[j]'hj).toNat:=fun j hj e=>by subst e;exact f4
     exact this 2 (by omega) (by omega)
    have hb2:(s[2]'(by omega)).toNat < 128:=hb _ (by
     have:=Lib.data_getElem? s 2 (by omega)
     exact List.mem_of_getElem? this)
    have hne:(((s[2]'(by omega)).toNat:Int) != ((rs[2]'(by omega)).toNat:Int)) = true:=by
     rw [bne_iff_ne];omega
    have hix:∀ a e:Nat,Lib.indexByte (s.extract a e).data.toList (rs[2]'(by omega)) = -1:=fun a e=>qft fun b hm hbc=>by
     have:=hb b (mem_extract hm)
     rw [hbc] at this;omega
    have hix0:Lib.indexByte (ByteArray.empty).data.toList (rs[2]'(by omega)) = -1:=rfl
    have hback:(((rs[2]'(by omega)).toNat:Int)).toNat.toUInt8 = rs[2]'(by omega):=by simp
    clear hb f4
    go_wp2
    go_step3
    go_wp2
    go_region_o
    go_wp2
    go_region_with_o (refine (Any.strings_IndexByte { L with } _ _ _).mono ?_;rintro e w' ⟨rfl,hw⟩;rw [hw,hback];first | rw [hix] | rw [hix0])
    all_goals go_wp2
    all_goals (simp only [go_sem,Exit.noGoto_ret])
    all_goals (go_ret;exact ⟨rfl,.inr rfl⟩)

set_option maxHeartbeats 4000000 in
set_option maxRecDepth 1000000 in
theorem qts (L:Lays.n152 P ρ) (s:ByteArray) (r:Int) (w:World) (h1:128≤r) (hr:r≠65533) (hv:Utf8.valid r = false) :
 Calls P (ρ.f 152) #[.string s,.int .i32 r] w fun e w'=>e = .returned (.int .i64 (-1))∧w' = w:=by
 have hv':Lib.validRune r = false:=by
  show Go.validRune r = false
  rw [← validRune_eq];exact hv
 have mixed:=L.mixed
 have t3:=L.t3;have a3:=L.a3;have z3:=L.z3;have v3:=L.v3
 have t4:=L.t4;have a4:=L.a4;have z4:=L.z4;have v4:=L.v4
 have t5:=L.t5;have a5:=L.a5;have z5:=L.z5;have v5:=L.v5
 have t9:=L.t9;have a9:=L.a9;have z9:=L.z9;have v9:=L.v9
 have t21:=L.t21;have a21:=L.a21;have z21:=L.z21;have v21:=L.v21
 have e119:∀ args w,(callFunc (ρ.f 119) args).run P w = .ok (.enter (ρ.f 119) args) w:=enters_of L.f119 (by kernel_rfl) rfl
 have hlt:¬ r < 128:=by omega
 go_enter L.f152,Body.n152_ntmps ρ
 go_wp2_with (first
  | (go_at_fn (ρ.f 119);refine (Any.utf8_ValidRune { L with } r _).mono ?_;rintro e w' ⟨rfl,hw⟩;rw [hw,hv']))
 go_ret
 exact ⟨rfl,rfl⟩
set_option maxHeartbeats 4000000 in
set_option maxRecDepth 1000000 in
theorem qul (L:Lays.n152 P ρ) (s:ByteArray) (w:World) (hb:∀ b∈s.data.toList,b.toNat < 128) :
 Calls P (ρ.f 152) #[.string s,.int .i32 65533] w fun e w'=>e = .returned (.int .i64 (-1))∧∃ pos,w' = w.iter s pos:=by
 have HA:Aside (∀ b∈s.data.toList,b.toNat < 128):=hb
 clear hb
 have mixed:=L.mixed
 have t3:=L.t3;have a3:=L.a3;have z3:=L.z3;have v3:=L.v3
 have t4:=L.t4;have a4:=L.a4;have z4:=L.z4;have v4:=L.v4
 have t5:=L.t5;have a5:=L.a5;have z5:=L.z5;have v5:=L.v5
 have t9:=L.t9;have a9:=L.a9;have z9:=L.z9;have v9:=L.v9
 have t21:=L.t21;have a21:=L.a21;have z21:=L.z21;have v21:=L.v21
 go_enter L.f152,Body.n152_ntmps ρ
 go_wp2
 go_loopg [] s.size (fun g wx=>∃ i:Nat,i + g = s.size∧wx = w.iter s i)
 case atStart=>exact ⟨0,by omega,rfl⟩
 case round =>
  obtain ⟨i,hig,rfl⟩:=hrel
  cases gk with
  | zero =>
    obtain rfl:i = s.size:=by omega
    have hnx:=run_next_end (P:=P) w s s.size
    go_wp2
    go_ret
    exact ⟨rfl,_,rfl⟩
  | succ g =>
    have hi:i < s.size:=by omega
    obtain ⟨x,hx⟩:∃ x:UInt8,s[i]'hi = x:=⟨_,rfl⟩
    have hx128:x.toNat < 128:=HA.out x (List.mem_of_getElem? (by rw [← hx];exact Lib.data_getElem? s i hi))
    have hnx:=fun ty=>run_next_ascii (P:=P) w s i ty hi (by rw [hx];exact hx128)
    rw [hx] at hnx
    have hne:((x.toNat:Int) == 65533) = false:=beq_eq_false_iff_ne.2 (by omega)
    clear hx
    go_wp2
    go_roundg g
    case measure=>omega
    case rel=>exact ⟨i + 1,by omega,rfl⟩
theorem qt0 (L:Lays.n152 P ρ) (s:ByteArray) (r:Int) (w:World) (h1:128≤r) (hss:s.size = 3) (hb:∀ b∈s.data.toList,b.toNat < 128) :
 Calls P (ρ.f 152) #[.string s,.int .i32 r] w fun e w'=>e = .returned (.int .i64 (-1))∧(w' = w∨w' = w.drew.drew∨∃ pos,w' = w.iter s pos):=by
 by_cases hr:r = 65533
 ·subst hr
  exact (qul L s w hb).mono fun e w' h=>⟨h.1,.inr (.inr h.2)⟩
 ·cases hv:Utf8.valid r with
  | true=>exact (qsm L s r w h1 hss hb hr hv).mono fun e w' h=>⟨h.1,h.2.elim .inl fun q=>.inr (.inl q)⟩
  | false=>exact (qts L s r w h1 hr hv).mono fun e w' h=>⟨h.1,.inl h.2⟩

/-! what a rune is made of -/
theorem qbn2 (s:ByteArray) (i:Nat) (h:i < s.size):(s.get! i) = s[i]'h:=by
 have:=get_at s i h
 simpa using this
theorem qsg (s:ByteArray) (pos:Nat) (h:pos < s.size) (ha:128≤(s[pos]'h).toNat) :
 pos + (Utf8.decode s pos).2≤s.size∧∀ j (hj:j < s.size),pos≤j->j < pos + (Utf8.decode s pos).2->128≤(s[j]'hj).toNat:=by
 have hn:¬ (s[pos]'h).toNat < 128:=by omega
 have hc:∀ k,(decide (pos + k < s.size) && ((s.get! (pos + k)).toNat / 64 == 2)) = true->∃ hk:pos + k < s.size,128≤(s[pos + k]'hk).toNat:=fun k hk=>by
  rw [Bool.and_eq_true,decide_eq_true_eq,beq_iff_eq] at hk
  refine ⟨hk.1,?_⟩
  rw [qbn2 s _ hk.1] at hk
  omega
 have one:∀ n,n≤1->pos + n≤s.size∧∀ j (hj:j < s.size),pos≤j->j < pos + n->128≤(s[j]'hj).toNat:=fun n hn=>⟨by omega,fun j hj h1 h2=>by
  obtain rfl:j = pos:=by omega
  exact ha⟩
 have two:∀ n,n≤2->(decide (pos + 1 < s.size) && ((s.get! (pos + 1)).toNat / 64 == 2)) = true->pos + n≤s.size∧∀ j (hj:j < s.size),pos≤j->j < pos + n->128≤(s[j]'hj).toNat:=fun n hn k1=>by
  obtain ⟨q1,q2⟩:=hc 1 k1
  refine ⟨by omega,fun j hj h1 h2=>?_⟩
  rcases (by omega:j = pos∨j = pos + 1) with rfl | rfl
  ·exact ha
  ·exact q2
 have three:∀ n,n≤3->(decide (pos + 1 < s.size) && ((s.get! (pos + 1)).toNat / 64 == 2)) = true->(decide (pos + 2 < s.size) && ((s.get! (pos + 2)).toNat / 64 == 2)) = true->pos + n≤s.size∧∀ j (hj:j < s.size),pos≤j->j < pos + n->128≤(s[j]'hj).toNat:=fun n hn k1 k2=>by
  obtain ⟨q1,q2⟩:=hc 1 k1
  obtain ⟨q3,q4⟩:=hc 2 k2
  refine ⟨by omega,fun j hj h1 h2=>?_⟩
  rcases (by omega:j = pos∨j = pos + 1∨j = pos + 2) with rfl | rfl | rfl
  ·exact ha
  ·exact q2
  ·exact q4
 have four:∀ n,n≤4->(decide (pos + 1 < s.size) && ((s.get! (pos + 1)).toNat / 64 == 2)) = true->(decide (pos + 2 < s.size) && ((s.get! (pos + 2)).toNat / 64 == 2)) = true->(decide (pos + 3 < s.size) && ((s.get! (pos + 3)).toNat / 64 == 2)) = true->pos + n≤s.size∧∀ j (hj:j < s.size),pos≤j->j < pos + n->128≤(s[j]'hj).toNat:=fun n hn k1 k2 k3=>by
  obtain ⟨q1,q2⟩:=hc 1 k1
  obtain ⟨q3,q4⟩:=hc 2 k2
  obtain ⟨q5,q6⟩:=hc 3 k3
  refine ⟨by omega,fun j hj h1 h2=>?_⟩
  rcases (by omega:j = pos∨j = pos + 1∨j = pos + 2∨j = pos + 3) with rfl | rfl | rfl | rfl
  ·exact ha
  ·exact q2
  ·exact q4
  ·exact q6
 simp only [Utf8.decode,get_at s pos h,hn,if_false]
 split
 ·rename_i hx
  rw [Bool.and_eq_true] at hx
  split
  ·exact two _ (Nat.le_refl _) hx.2
  ·exact one _ (Nat.le_refl _)
 ·split
  ·rename_i hx
   rw [Bool.and_eq_true,Bool.and_eq_true] at hx
   split
   ·exact three _ (Nat.le_refl _) hx.1.2 hx.2
   ·exact one _ (Nat.le_refl _)
  ·split
   ·rename_i hx
    rw [Bool.and_eq_true,Bool.and_eq_true,Bool.and_eq_true] at hx
    split
    ·exact four _ (Nat.le_refl _) hx.1.1.2 hx.1.2 hx.2
    ·exact one _ (Nat.le_refl _)
   ·exact one _ (Nat.le_refl _)

def ItAt (w0 wx:World) (s:ByteArray) (i:Nat):Prop:=wx.heap[w0.heap.size]? = some (.stringIter s i)∧Below w0.heap.size w0 wx
theorem ItAt.next {w0 wx:World} {s:ByteArray} {i:Nat} (h:ItAt w0 wx s i) (j:Nat):ItAt w0 (wx.iterAt w0.heap.size s j) s j :=
 ⟨iterAt_heap wx _ s i j h.1,below_iterAt h.2 (Nat.le_refl _) s j⟩
theorem ItAt.call {w0 wx w':World} {s t:ByteArray} {i:Nat} (h:ItAt w0 wx s i) (hw:w' = wx∨w' = wx.drew.drew∨∃ pos,w' = wx.iter t pos):ItAt w0 w' s i:=by
 rcases hw with rfl | rfl | ⟨pos,rfl⟩
 ·exact h
 ·exact ⟨h.1,h.2.drew.drew⟩
 ·have hlt:w0.heap.size < wx.heap.size:=(Array.getElem?_eq_some_iff.1 h.1).1
  exact ⟨(Below.heap_alloc wx _ _ hlt).trans h.1,h.2.alloc (by omega) _⟩
theorem qrh {l cs:List UInt8} {i:Nat}:∀ m:Nat,Lib.NoAny l cs i->(∀ j,i≤j->j < i + m->∃ x,l[j]? = some x∧cs.contains x = false)->Lib.NoAny l cs (i + m)
 | 0,h,_=>h
 | m + 1, h, hb => by
   obtain ⟨x,h1,h2⟩:=hb (i + m) (by omega) (by omega)
   exact (qrh m h fun j q1 q2=>hb j q1 (by omega)).succ h1 h2
set_option maxHeartbeats 8000000 in
set_option maxRecDepth 1000000 in
theorem qqe (L:Lays.n153 P ρ) (s chars:ByteArray) (w:World) (h2:chars.size = 3) (h8:s.size≤8) (hb:∀ b∈chars.data.toList,b.toNat < 128) :
 Calls P (ρ.f 153) #[.string s,.string chars] w fun e w'=>e = .returned (.int .i64 (Lib.indexAny s.data.toList chars.data.toList))∧Below w.heap.size w w':=by
 have HA:Aside (∀ b∈chars.data.toList,b.toNat < 128):=hb
 clear hb
 have hemp:chars.toList.isEmpty = false:=by
  rw [Lib.toList_data]
  cases h:chars.data.toList with
  | nil=>have:=Lib.size_eq chars;rw [h,List.length_nil] at this;omega
  | cons _ _=>rfl
 have hn1:((chars.size:Int) == 1) = false:=beq_eq_false_iff_ne.2 (by omega)
 have h8z:decide ((8:Int) < (s.size:Int)) = false:=decide_eq_false (by omega)
 have t3:=L.t3;have a3:=L.a3;have z3:=L.z3;have v3:=L.v3
 have t4:=L.t4;have a4:=L.a4;have z4:=L.z4;have v4:=L.v4
 have t5:=L.t5;have a5:=L.a5;have z5:=L.z5;have v5:=L.v5
 have t9:=L.t9;have a9:=L.a9;have z9:=L.z9;have v9:=L.v9
 have t21:=L.t21;have a21:=L.a21;have z21:=L.z21;have v21:=L.v21
 have e152:∀ args w,(callFunc (ρ.f 152) args).run P w = .ok (.enter (ρ.f 152) args) w:=enters_of L.f152 (by kernel_rfl) rfl
 have e226:∀ args w,(callFunc (ρ.f 226) args).run P w = .ok (.enter (ρ.f 226) args) w:=enters_of L.f226 (by kernel_rfl) rfl
 go_enter L.f153,Body.n153_ntmps ρ
 go_wp2_with (go_at_fn (ρ.f 226);refine (Any.strings_shouldUseASCIISet { L with } _ _).mono ?_;rintro e w' ⟨rfl,hw⟩;rw [hw,h8z])
 go_loopg [9,10] s.size (fun g _ _ wx=>∃ i:Nat,i + g = s.size∧ItAt w wx s i∧Lib.NoAny s.data.toList chars.data.toList i)
 case atStart=>exact ⟨0,by omega,⟨World.iter_heap w s 0,(Below.refl _ w).alloc (Nat.le_refl _) _⟩,Lib.NoAny.zero _ _⟩
 case round =>
  obtain ⟨i,hig,hit,hno⟩:=hrel
  have HN:Aside (Lib.NoAny s.data.toList chars.data.toList i):=hno
  clear hno
  have HI:Aside (ItAt w wr s i):=hit
  have hk:=hit.1
  clear hit
  cases gk with
  | zero =>
    obtain rfl:i = s.size:=by omega
    have hnx:=fun ty=>run_next_end_at (P:=P) wr w.heap.size s s.size ty hk (by omega)
    clear hk
    go_wp2
    go_ret
    exact ⟨by rw [Lib.indexAny_none (by rw [← Lib.size_eq];exact HN.out)];rfl,HI.out.2⟩
  | succ g =>
    have hi:i < s.size:=by omega
    obtain ⟨x,hx⟩:∃ x:UInt8,s[i]'hi = x:=⟨_,rfl⟩
    have hxl:s.data.toList[i]? = some x:=by rw [← hx];exact Lib.data_getElem? s i hi
    have Hx:Aside (s.data.toList[i]? = some x):=hxl
    clear hxl
    by_cases hx128:x.toNat < 128
    ·have hnx:=fun ty=>run_next_ascii_at (P:=P) wr w.heap.size s i ty hk hi (by rw [hx];exact hx128)
     rw [hx] at hnx
     clear hk hx
     have hcon:=Lib.contains_iff_indexByte chars.data.toList x
     have hback:((x.toNat:Int)).toNat.toUInt8 = x:=by simp
     cases hin:chars.data.toList.contains x
     ·rw [hin] at hcon
      have hlt:¬ ((0:Int)≤Lib.indexByte chars.data.toList x):=of_decide_eq_false hcon.symm
      clear hcon
      go_wp2_with (go_at_fn (ρ.f 152);refine (Any.strings_IndexRune_ascii { L with } _ _ _ (by omega) (by omega)).mono ?_;rintro e w' ⟨rfl,hw⟩;rw [hw,hback])
      go_roundg g
      case measure=>omega
      case rel=>exact ⟨i + 1,by omega,HI.out.next _,HN.out.succ Hx.out hin⟩
     ·rw [hin] at hcon
      have hge:(0:Int)≤Lib.indexByte chars.data.toList x:=of_decide_eq_true hcon.symm
      clear hcon
      go_wp2_with (go_at_fn (ρ.f 152);refine (Any.strings_IndexRune_ascii { L with } _ _ _ (by omega) (by omega)).mono ?_;rintro e w' ⟨rfl,hw⟩;rw [hw,hback])
      go_ret
      exact ⟨by rw [Lib.indexAny_hit HN.out Hx.out hin];rfl,(HI.out.next _).2⟩
    ·have h128:128≤(s[i]'hi).toNat:=by rw [hx];omega
     obtain ⟨d1,d2⟩:=decode_high s i hi h128
     obtain ⟨d3,d4⟩:=qsg s i hi h128
     have d5:=decode_le s i
     have hnx:=fun ty=>run_next_any_at (P:=P) wr w.heap.size s i ty hk hi
     clear hk hx
     obtain ⟨c,hc⟩:∃ c,c = (Utf8.decode s i).1:=⟨_,rfl⟩
     obtain ⟨m,hm⟩:∃ m,m = (Utf8.decode s i).2:=⟨_,rfl⟩
     rw [← hc] at d1 d5
     rw [← hm] at d2 d3 d4
     simp only [← hc,← hm] at hnx
     clear hc hm h128
     have HD:Aside (∀ j (hj:j < s.size),i≤j->j < i + m->128≤(s[j]'hj).toNat):=d4
     clear d4
     go_wp2_with (go_at_fn (ρ.f 152);refine (qt0 { L with } chars (c:Int) _ (by omega) h2 HA.out).mono ?_;rintro e w' ⟨rfl,hw⟩)
     go_roundg (g + 1 - m)
     case measure=>omega
     case rel =>
      exact ⟨i + m,by omega,(HI.out.next _).call hw,qrh m HN.out fun j h1 h2=>by
       have hj:j < s.size:=by omega
       refine ⟨s[j]'hj,Lib.data_getElem? s j hj,?_⟩
       have h3:=HD.out j hj h1 h2
       cases hcn:chars.data.toList.contains (s[j]'hj) with
       | false=>rfl
       | true =>
         have:=HA.out _ (List.contains_iff_mem.1 hcn)
         omega⟩
theorem qx7 (L:Lays.n153 P ρ) (h116:(P.info? (ρ.t 116)).map (fun i=>(i.zero,i.size)) = some (some (.agg (Array.replicate 256 (.bool false))),256)) (s chars:ByteArray) (w:World) (h2:chars.size = 3) (hs:s.size < 4294967281) (hb:∀ b∈chars.data.toList,b.toNat < 128) :
 Calls P (ρ.f 153) #[.string s,.string chars] w fun e w'=>e = .returned (.int .i64 (Lib.indexAny s.data.toList chars.data.toList))∧Below w.heap.size w w':=by
 by_cases h8:s.size≤8
 ·exact qqe L s chars w h2 h8 hb
 ·refine (Any.strings_IndexAny_long L (zero_of_info h116).1 (zero_of_info h116).2 s chars w (by omega) (by omega) hs (by omega) (fun j b hj=>hb b (List.mem_of_getElem? hj))).mono ?_
  rintro e w' ⟨rfl,rfl⟩
  exact ⟨rfl,((Below.refl _ w).alloc (Nat.le_refl _) _).alloc (by simp) _⟩
end Go.V
