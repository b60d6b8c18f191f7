/- A text of this proof. -/
import Derived.Test.YtfpobiheiloamaaHaf
import Derived.Test.YtfpobiheiloamaaProg
/- The compiled code of the functions. -/
namespace Go.Proofs.Ytfpobiheiloamaa
open Go Go.V
@[reducible] def zm (d s : Nat) : GI := ⟨none, some d, .v (.mov (.t s))⟩
@[reducible] def zv (d : Nat) (x : IV) : GI := ⟨none, some d, .v x⟩
@[reducible] def zi (d : Nat) (i : I) : GI := ⟨none, some d, i⟩
@[reducible] def zn (i : I) : GI := ⟨none, none, i⟩
@[reducible] def zw (j : Nat) (b : Bool) (d : Nat) (x : IV) : GI := ⟨some (j, b), some d, .v x⟩
@[reducible] def zp (g : GI) : GI × List Nat := (g, [])
@[reducible] def zN : Co := .agg [.id, .id, .id, .id, (.sl 5)]
@[reducible] def zC : Co := .agg [(.sl 4), .id, .id, .id, .id, .id, .id, .id]
@[reducible] def zaN : I := .alo [(.int .i64 0), (.int .i64 0), (.int .i64 0), (.str []), .nils]
@[reducible] def zaC : I := .alo [.nils, (.int .i64 0), (.int .i64 0), (.int .i64 0), (.str []), (.int .i64 0), (.int .i64 0), (.int .i64 0)]
@[reducible] def zaT : I := .alo [(.int .i64 0), (.int .i64 0), (.int .i64 0), (.str [])]
@[reducible] def zZ : AV := .agg [(.int .i64 0), (.int .i64 0), (.int .i64 0), (.str []), .nils]
@[reducible] def zc (n : Int) : Opd := .c (.int .i64 n)
@[reducible] def zf : IV := .mov (.c (.bool false))
@[reducible] def zr (l : List GI) : IC := .reg false l
def qbga : IC := zr [zi 2 (.box (.t 0)), zi 3 (.box (.t 1)), zv 4 zf]
def qbih : IC := zr [zv 9 (.ld true 3 (.t 2)), zv 10 (.ld true 3 (.t 3)), zv 11 (.bsl 3 [((.t 9), (.agg [.id, .id, (.sl 3)])), ((.t 10), (.agg [.id, .id, (.sl 3)]))]), zi 12 (.call (.c (.fn 31 [] [])) [((.t 11), (.sl 3))]), zv 13 (.bin .eql .no (.t 12) (zc 0))]
def qbdb : IC := zr [zi 14 (.call (.c (.fn 51 [] [])) []), zm 4 14]
def qbe0 : IC := zr [zv 16 (.ld true 3 (.t 2)), zv 17 (.ld true 3 (.t 3)), zi 18 (.call (.c (.fn 52 [] [])) [((.t 16), (.agg [.id, .id, (.sl 3)])), ((.t 17), (.agg [.id, .id, (.sl 3)]))]), zm 15 18, zv 19 (.ext (.t 15) 0), zv 20 (.ext (.t 15) 1), zm 5 19, zm 6 20]
def qbea : IC := zr [zv 22 (.ld true 3 (.t 2)), zv 23 (.ld true 3 (.t 3)), zi 24 (.call (.c (.fn 53 [] [])) [((.t 22), (.agg [.id, .id, (.sl 3)])), ((.t 23), (.agg [.id, .id, (.sl 3)]))]), zm 21 24, zv 25 (.ext (.t 21) 0), zv 26 (.ext (.t 21) 1), zm 7 25, zm 8 26]
def qbgy : IC := .drw [zp (zm 27 6), zp (zm 28 8), zp (zv 29 (.bin .eql .no (.t 27) (.t 28))), zp (zm 30 29), zp (zw 30 true 31 (.mov (.t 5))), zp (zw 30 true 32 (.bin .eql .ptr (.t 31) (.c .nilp))), zp (zw 30 true 33 (.mov (.t 8))), zp (zw 30 true 34 (.bin .neq .no (.t 33) (zc 0))), zp (zw 30 true 35 (.bin .eql .bool (.t 32) (.t 34))), zp (zv 36 (.pick (.t 30) (.t 35) (.c (.bool false)))), zp (zm 37 36), zp (zw 37 true 38 (.mov (.t 5))), (⟨some (37, true), some 39, .call (.c (.fn 41 [] [])) [((.t 38), .id)]⟩, []), zp (zw 37 true 40 (.mov (.t 7))), (⟨some (37, true), some 41, .call (.c (.fn 40 [] [])) [((.t 39), (.sl 4)), ((.t 40), (.sl 4))]⟩, []), zp (zv 42 (.pick (.t 37) (.t 41) (.c (.bool false)))), zp (zm 43 42), zp (zw 43 true 44 (.ld true 3 (.t 2))), zp (zw 43 true 45 (.ld true 3 (.t 3))), (⟨some (43, true), some 46, .call (.c (.fn 54 [] [])) [((.t 44), (.agg [.id, .id, (.sl 3)])), ((.t 45), (.agg [.id, .id, (.sl 3)]))]⟩, []), (zw 43 true 47 (.ld true 3 (.t 2)), [19]), (zw 43 true 48 (.ld true 3 (.t 3)), [19]), (⟨some (43, true), some 49, .call (.c (.fn 55 [] [])) [((.t 47), (.agg [.id, .id, (.sl 3)])), ((.t 48), (.agg [.id, .id, (.sl 3)]))]⟩, []), zp (zw 43 true 50 (.bin .eql .bool (.t 46) (.t 49))), zp (zv 51 (.pick (.t 43) (.t 50) (.c (.bool false)))), zp (zm 52 51), zp (zw 52 true 53 (.ld true 3 (.t 2))), zp (zw 52 true 54 (.ld true 3 (.t 3))), (⟨some (52, true), some 55, .call (.c (.fn 56 [] [])) [((.t 53), (.agg [.id, .id, (.sl 3)])), ((.t 54), (.agg [.id, .id, (.sl 3)]))]⟩, []), (zw 52 true 56 (.ld true 3 (.t 2)), [28]), (zw 52 true 57 (.ld true 3 (.t 3)), [28]), (⟨some (52, true), some 58, .call (.c (.fn 55 [] [])) [((.t 56), (.agg [.id, .id, (.sl 3)])), ((.t 57), (.agg [.id, .id, (.sl 3)]))]⟩, []), zp (zw 52 true 59 (.mov (.t 58))), zp (zw 59 true 60 (.ld true 3 (.t 3))), zp (zw 59 true 61 (.ld true 3 (.t 2))), (⟨some (59, true), some 62, .call (.c (.fn 55 [] [])) [((.t 60), (.agg [.id, .id, (.sl 3)])), ((.t 61), (.agg [.id, .id, (.sl 3)]))]⟩, []), zp (zw 52 true 63 (.pick (.t 59) (.t 62) (.c (.bool false)))), zp (zw 52 true 64 (.bin .eql .bool (.t 55) (.t 63))), zp (zv 65 (.pick (.t 52) (.t 64) (.c (.bool false)))), zp (zm 66 65), (⟨some (66, true), some 67, .call (.c (.fn 51 [] [])) []⟩, []), zp (zv 68 (.pick (.t 66) (.t 67) (.c (.bool false)))), zp (zm 4 68)]
def k0z : IC := (.seq qbga (.seq (.seq qbih (.cond (.t 13) (.seq qbdb .ret) .skip)) (.seq qbe0 (.seq qbea (.seq qbgy .ret)))))
@[go_sem] def s0z : List (RV × Co) := [(.t 4, .id)]
theorem c0z : cFun Try.prog 11 = some (69, k0z, s0z) := by kernel_rfl

def q2l : IC := zr [zv 2 (.mov (zc 0))]
def qba6 : IC := zr [zv 3 (.mov (zc 20000))]
def q96 : IC := zr [zv 4 (.mov (zc 0))]
def q40 : IC := zr [zm 5 4, zm 6 0, zv 7 (.len false (.t 6)), zv 8 (.bin .lss .no (.t 5) (.t 7))]
def q4u : IC := zr [zm 11 0, zm 12 4, zv 13 (.iad 3 (.t 11) (.t 12)), zv 14 (.ld true 3 (.t 13)), zm 15 3, zi 16 (.call (.c (.fn 77 [] [])) [((.t 14), (.agg [.id, .id, (.sl 3)])), ((.t 15), .id), ((zc 300), .id)]), zm 3 16]
def qbbh : IC := zr [zm 9 4, zv 10 (.bin .add .no (.t 9) (zc 1)), zm 4 10]
def q4t : IC := (.seq (.seq q40 (.cond (.t 8) .skip (.exit 0))) (.seq (.block 1 q4u) qbbh))
def q8p : IC := zr [zm 17 3, zv 18 (.bin .lss .no (.t 17) (zc 0))]
def q6f : IC := zr [zv 2 (.mov (zc 0))]
def qyv : IC := zr [zv 2 (.mov (zc 1))]
def k0ce : IC := (.seq q2l (.seq qba6 (.seq (.seq q96 (.block 0 (.loop q4t))) (.seq (.seq q8p (.cond (.t 18) (.seq q6f .ret) .skip)) (.seq qyv .ret)))))
@[go_sem] def s0ce : List (RV × Co) := [(.t 2, .id)]
theorem c0ce : cFun Try.prog 31 = some (19, k0ce, s0ce) := by kernel_rfl

def q8z : IC := zr [zv 2 (.mov (.c .nilp))]
def q97 : IC := zr [zv 6 (.bld [.nils] []), zi 7 (.box (.t 6)), zm 3 7]
def qba3 : IC := zr [zm 8 0, zv 9 (.len false (.t 8)), zv 10 (.mov (zc 0))]
def q8g : IC := zr [zv 11 (.bin .lss .no (.t 10) (.t 9))]
def q0p : IC := zr [zv 12 (.iad 4 (.t 8) (.t 10)), zv 13 (.ld true 4 (.t 12)), zi 5 (.alo [(.int .i64 0), (.str []), (.int .i64 0), .nils]), zn (.st 4 (.agg [.id, .id, .id, (.sl 3)]) (.t 5) (.t 13))]
def q1e : IC := zr [zm 14 3, zv 15 (.fad (.t 5) 0), zv 16 (.ld false 1 (.t 15)), zv 17 (.fad (.t 5) 1), zv 18 (.ld true 3 (.t 17)), zi 19 (.call (.c (.fn 45 [] [])) [((.t 14), .id), ((.t 16), .id), ((.t 18), (.agg [.id, .id, (.sl 3)]))])]
def q47 : IC := zr [zv 20 (.bin .add .no (.t 10) (zc 1)), zm 10 20]
def q7v : IC := (.seq q8g (.seq (.cond (.t 11) .skip (.exit 0)) (.seq (.block 1 (.seq q0p q1e)) q47)))
def q41 : IC := zr [zm 21 3, zm 2 21]
def k0cn : IC := (.seq q8z (.seq q97 (.seq (.seq qba3 (.block 0 (.loop q7v))) (.seq q41 .ret))))
@[go_sem] def s0cn : List (RV × Co) := [(.t 2, .id)]
theorem c0cn : cFun Try.prog 33 = some (22, k0cn, s0cn) := by kernel_rfl

def q7q : IC := zr [zi 3 (.box (.t 1)), zi 4 (.alo [(.str []), (.int .i64 0), .nils]), zv 5 (.mov (zc 0))]
def qbau : IC := zr [zv 7 (.ld true 3 (.t 3)), zi 8 (.call (.c (.fn 79 [] [])) [((.t 7), (.agg [.id, .id, (.sl 3)]))]), zv 9 (.un .not (.t 8))]
def q5i : IC := zr [zv 10 (.bld [(.str []), (.int .i64 0), .nils] []), zn (.st 3 (.agg [.id, .id, (.sl 3)]) (.t 4) (.t 10)), zv 5 (.mov (zc 1))]
def qbaw : IC := zr [zm 11 0, zv 12 (.ld true 3 (.t 3)), zi 13 (.call (.c (.fn 80 [] [])) [((.t 11), (.sl 4)), ((.t 12), (.agg [.id, .id, (.sl 3)]))]), zv 14 (.bin .gtr .no (.t 13) (zc 4096))]
def q5n : IC := zr [zv 15 (.bld [(.str []), (.int .i64 0), .nils] []), zn (.st 3 (.agg [.id, .id, (.sl 3)]) (.t 4) (.t 15)), zv 5 (.mov (zc 2))]
def q5r : IC := zr [zm 16 0, zv 17 (.ld true 3 (.t 3)), zi 18 (.call (.c (.fn 81 [] [])) [((.t 16), (.sl 4)), ((.t 17), (.agg [.id, .id, (.sl 3)]))]), zi 6 (.alo [(.str []), (.int .i64 0), .nils]), zn (.st 3 (.agg [.id, .id, (.sl 3)]) (.t 6) (.t 18))]
def qbac : IC := zr [zv 19 (.ld true 3 (.t 6)), zi 20 (.call (.c (.fn 79 [] [])) [((.t 19), (.agg [.id, .id, (.sl 3)]))]), zv 21 (.un .not (.t 20))]
def qba8 : IC := zr [zv 22 (.bld [(.str []), (.int .i64 0), .nils] []), zn (.st 3 (.agg [.id, .id, (.sl 3)]) (.t 4) (.t 22)), zv 5 (.mov (zc 2))]
def q80 : IC := zr [zv 23 (.ld true 3 (.t 6)), zn (.st 3 (.agg [.id, .id, (.sl 3)]) (.t 4) (.t 23)), zv 5 (.mov (zc 0))]
def k0co : IC := (.seq q7q (.seq (.seq qbau (.cond (.t 9) (.seq q5i .ret) .skip)) (.seq (.seq qbaw (.cond (.t 14) (.seq q5n .ret) .skip)) (.seq q5r (.seq (.seq qbac (.cond (.t 21) (.seq qba8 .ret) .skip)) (.seq q80 .ret))))))
@[go_sem] def s0co : List (RV × Co) := [(.c true 3 4, (.agg [.id, .id, (.sl 3)])), (.t 5, .id)]
theorem c0co : cFun Try.prog 36 = some (24, k0co, s0co) := by kernel_rfl

def qbaz : IC := zr [zi 4 (.alo [(.str []), (.int .i64 0), .nils]), zv 5 zf]
def q77 : IC := zr [zm 8 0, zv 9 (.bin .eql .ptr (.t 8) (.c .nilp))]
def qbbt : IC := zr [zv 10 (.bld [(.str []), (.int .i64 0), .nils] []), zn (.st 3 (.agg [.id, .id, (.sl 3)]) (.t 4) (.t 10)), zv 5 zf]
def qbb0 : IC := zr [zm 12 0, zm 13 1, zi 14 (.call (.c (.fn 82 [] [])) [((.t 12), .id), ((.t 13), .id)]), zm 11 14, zv 15 (.ext (.t 11) 0), zv 16 (.ext (.t 11) 1), zm 6 15, zm 7 16]
def q82 : IC := zr [zm 17 7, zv 18 (.un .not (.t 17))]
def q7x : IC := zr [zv 19 (.bld [(.str []), (.int .i64 0), .nils] []), zn (.st 3 (.agg [.id, .id, (.sl 3)]) (.t 4) (.t 19)), zv 5 zf]
def q4h : IC := zr [zm 20 0, zv 21 (.nck (.t 20)), zv 22 (.fad (.t 21) 0), zv 23 (.ld false 1 (.t 22)), zm 24 6, zv 25 (.iad 4 (.t 23) (.t 24)), zv 26 (.fad (.t 25) 1), zv 27 (.ld true 3 (.t 26)), zn (.st 3 (.agg [.id, .id, (.sl 3)]) (.t 4) (.t 27)), zv 5 (.mov (.c (.bool true)))]
def k0bn : IC := (.seq qbaz (.seq (.seq q77 (.cond (.t 9) (.seq qbbt .ret) .skip)) (.seq qbb0 (.seq (.seq q82 (.cond (.t 18) (.seq q7x .ret) .skip)) (.seq q4h .ret)))))
@[go_sem] def s0bn : List (RV × Co) := [(.c true 3 4, (.agg [.id, .id, (.sl 3)])), (.t 5, .id)]
theorem c0bn : cFun Try.prog 37 = some (28, k0bn, s0bn) := by kernel_rfl

def q84 : IC := zr [zi 4 (.alo [(.str []), (.int .i64 0), .nils]), zv 5 zf]
def q1n : IC := zr [zv 6 (.mov (zc 0))]
def q7i : IC := zr [zm 7 6, zm 8 0, zv 9 (.len false (.t 8)), zv 10 (.bin .lss .no (.t 7) (.t 9))]
def q9v : IC := zr [zm 13 0, zm 14 6, zv 15 (.iad 4 (.t 13) (.t 14)), zv 16 (.fad (.t 15) 0), zv 17 (.ld false 1 (.t 16)), zm 18 1, zv 19 (.bin .eql .no (.t 17) (.t 18))]
def q54 : IC := zr [zm 20 0, zm 21 6, zv 22 (.iad 4 (.t 20) (.t 21)), zv 23 (.fad (.t 22) 1), zv 24 (.ld true 3 (.t 23)), zn (.st 3 (.agg [.id, .id, (.sl 3)]) (.t 4) (.t 24)), zv 5 (.mov (.c (.bool true)))]
def q1l : IC := zr [zm 11 6, zv 12 (.bin .add .no (.t 11) (zc 1)), zm 6 12]
def q63 : IC := (.seq (.seq q7i (.cond (.t 10) .skip (.exit 0))) (.seq (.block 1 (.seq q9v (.cond (.t 19) (.seq q54 .ret) .skip))) q1l))
def q6j : IC := zr [zv 25 (.bld [(.str []), (.int .i64 0), .nils] []), zn (.st 3 (.agg [.id, .id, (.sl 3)]) (.t 4) (.t 25)), zv 5 zf]
def k0bs : IC := (.seq q84 (.seq (.seq q1n (.block 0 (.loop q63))) (.seq q6j .ret)))
@[go_sem] def s0bs : List (RV × Co) := [(.c true 3 4, (.agg [.id, .id, (.sl 3)])), (.t 5, .id)]
theorem c0bs : cFun Try.prog 38 = some (26, k0bs, s0bs) := by kernel_rfl

def qbij : IC := zr [zi 2 (.box (.t 0)), zi 3 (.box (.t 1)), zv 4 zf]
def qbgn : IC := zr [zv 6 (.fad (.t 2) 0), zv 7 (.ld false 1 (.t 6)), zv 8 (.fad (.t 3) 0), zv 9 (.ld false 1 (.t 8)), zv 10 (.bin .neq .no (.t 7) (.t 9)), zm 11 10, zw 11 false 12 (.fad (.t 2) 1), zw 11 false 13 (.ld false 1 (.t 12)), zw 11 false 14 (.fad (.t 3) 1), zw 11 false 15 (.ld false 1 (.t 14)), zw 11 false 16 (.bin .neq .no (.t 13) (.t 15)), zv 17 (.pick (.t 11) (.c (.bool true)) (.t 16)), zm 18 17, zw 18 false 19 (.fad (.t 2) 2), zw 18 false 20 (.ld false 1 (.t 19)), zw 18 false 21 (.len false (.t 20)), zw 18 false 22 (.fad (.t 3) 2), zw 18 false 23 (.ld false 1 (.t 22)), zw 18 false 24 (.len false (.t 23)), zw 18 false 25 (.bin .neq .no (.t 21) (.t 24)), zv 26 (.pick (.t 18) (.c (.bool true)) (.t 25))]
def qbgg : IC := zr [zv 4 zf]
def qbd4 : IC := zr [zv 5 (.mov (zc 0))]
def qbdu : IC := zr [zm 27 5, zv 28 (.fad (.t 2) 2), zv 29 (.ld false 1 (.t 28)), zv 30 (.len false (.t 29)), zv 31 (.bin .lss .no (.t 27) (.t 30))]
def qbeh : IC := .drw [zp (zv 34 (.fad (.t 2) 2)), zp (zv 35 (.ld false 1 (.t 34))), zp (zm 36 5), zp (zv 37 (.iad 3 (.t 35) (.t 36))), zp (zv 38 (.ld true 3 (.t 37))), zp (zv 39 (.fad (.t 3) 2)), zp (zv 40 (.ld false 1 (.t 39))), zp (zm 41 5), zp (zv 42 (.iad 3 (.t 40) (.t 41))), zp (zv 43 (.ld true 3 (.t 42))), (zi 44 (.call (.c (.fn 39 [] [])) [((.t 38), (.agg [.id, .id, (.sl 3)])), ((.t 43), (.agg [.id, .id, (.sl 3)]))]), []), zp (zv 45 (.un .not (.t 44)))]
def qben : IC := zr [zv 4 zf]
def qber : IC := zr [zm 32 5, zv 33 (.bin .add .no (.t 32) (zc 1)), zm 5 33]
def qbfo : IC := (.seq (.seq qbdu (.cond (.t 31) .skip (.exit 0))) (.seq (.block 1 (.seq qbeh (.cond (.t 45) (.seq qben .ret) .skip))) qber))
def q60 : IC := zr [zv 4 (.mov (.c (.bool true)))]
def k0c : IC := (.seq qbij (.seq (.seq qbgn (.cond (.t 26) (.seq qbgg .ret) .skip)) (.seq (.seq qbd4 (.block 0 (.loop qbfo))) (.seq q60 .ret))))
@[go_sem] def s0c : List (RV × Co) := [(.t 4, .id)]
theorem c0c : cFun Try.prog 39 = some (46, k0c, s0c) := by kernel_rfl

def q2s : IC := zr [zv 4 zf]
def q4m : IC := zr [zm 6 0, zv 7 (.len false (.t 6)), zm 8 1, zv 9 (.len false (.t 8)), zv 10 (.bin .neq .no (.t 7) (.t 9))]
def q3d : IC := zr [zv 4 zf]
def q4a : IC := zr [zv 5 (.mov (zc 0))]
def q8r : IC := zr [zm 11 5, zm 12 0, zv 13 (.len false (.t 12)), zv 14 (.bin .lss .no (.t 11) (.t 13))]
def q7g : IC := .drw [zp (zm 17 0), zp (zm 18 5), zp (zv 19 (.iad 4 (.t 17) (.t 18))), zp (zv 20 (.fad (.t 19) 0)), zp (zv 21 (.ld false 1 (.t 20))), zp (zm 22 1), zp (zm 23 5), zp (zv 24 (.iad 4 (.t 22) (.t 23))), zp (zv 25 (.fad (.t 24) 0)), zp (zv 26 (.ld false 1 (.t 25))), zp (zv 27 (.bin .neq .no (.t 21) (.t 26))), zp (zm 28 27), zp (zw 28 false 29 (.mov (.t 0))), zp (zw 28 false 30 (.mov (.t 5))), zp (zw 28 false 31 (.iad 4 (.t 29) (.t 30))), zp (zw 28 false 32 (.fad (.t 31) 1)), zp (zw 28 false 33 (.ld true 3 (.t 32))), zp (zw 28 false 34 (.mov (.t 1))), zp (zw 28 false 35 (.mov (.t 5))), zp (zw 28 false 36 (.iad 4 (.t 34) (.t 35))), zp (zw 28 false 37 (.fad (.t 36) 1)), zp (zw 28 false 38 (.ld true 3 (.t 37))), (⟨some (28, false), some 39, .call (.c (.fn 39 [] [])) [((.t 33), (.agg [.id, .id, (.sl 3)])), ((.t 38), (.agg [.id, .id, (.sl 3)]))]⟩, []), zp (zw 28 false 40 (.un .not (.t 39))), zp (zv 41 (.pick (.t 28) (.c (.bool true)) (.t 40)))]
def q7d : IC := zr [zv 4 zf]
def qbc0 : IC := zr [zm 15 5, zv 16 (.bin .add .no (.t 15) (zc 1)), zm 5 16]
def q58 : IC := (.seq (.seq q8r (.cond (.t 14) .skip (.exit 0))) (.seq (.block 1 (.seq q7g (.cond (.t 41) (.seq q7d .ret) .skip))) qbc0))
def qz3 : IC := zr [zv 4 (.mov (.c (.bool true)))]
def k0cp : IC := (.seq q2s (.seq (.seq q4m (.cond (.t 10) (.seq q3d .ret) .skip)) (.seq (.seq q4a (.block 0 (.loop q58))) (.seq qz3 .ret))))
@[go_sem] def s0cp : List (RV × Co) := [(.t 4, .id)]
theorem c0cp : cFun Try.prog 40 = some (42, k0cp, s0cp) := by kernel_rfl

def q2a : IC := zr [zv 2 (.mov (.c .nils))]
def q0y : IC := zr [zm 6 0, zv 7 (.bin .eql .ptr (.t 6) (.c .nilp))]
def q6n : IC := zr [zv 2 (.mov (.c .nils))]
def q7k : IC := zr [zm 8 0, zv 9 (.nck (.t 8)), zv 10 (.fad (.t 9) 0), zv 11 (.ld false 1 (.t 10)), zv 12 (.len false (.t 11)), zi 13 (.mks 4 (.agg [(.int .i64 0), (.str []), (.int .i64 0), .nils]) 56 (.t 12) (.t 12)), zm 3 13]
def q81 : IC := zr [zm 14 0, zv 15 (.nck (.t 14)), zv 16 (.fad (.t 15) 0), zv 17 (.ld false 1 (.t 16)), zv 18 (.len false (.t 17)), zv 19 (.mov (zc 0))]
def q31 : IC := zr [zv 20 (.bin .lss .no (.t 19) (.t 18))]
def q5b : IC := zr [zm 21 19, zv 22 (.iad 4 (.t 17) (.t 19)), zv 23 (.ld true 4 (.t 22)), zi 5 (.alo [(.int .i64 0), (.str []), (.int .i64 0), .nils]), zm 4 21, zn (.st 4 (.agg [.id, .id, .id, (.sl 3)]) (.t 5) (.t 23))]
def q9k : IC := .drw [zp (zm 24 3), zp (zm 25 4), zp (zv 26 (.fad (.t 5) 0)), zp (zv 27 (.ld false 1 (.t 26))), zp (zv 28 (.fad (.t 5) 1)), zp (zv 29 (.ld true 3 (.t 28))), (zi 30 (.call (.c (.fn 83 [] [])) [((.t 29), (.agg [.id, .id, (.sl 3)]))]), [3]), (zv 31 (.bld [(.int .i64 0), (.str []), (.int .i64 0), .nils] [(0, 1, (.t 27)), (1, 3, (.t 30))]), []), zp (zv 32 (.iad 4 (.t 24) (.t 25))), (zn (.st 4 (.agg [.id, .id, .id, (.sl 3)]) (.t 32) (.t 31)), [])]
def q2o : IC := zr [zv 33 (.bin .add .no (.t 19) (zc 1)), zm 19 33]
def q1i : IC := (.seq q31 (.seq (.cond (.t 20) .skip (.exit 0)) (.seq (.block 1 (.seq q5b q9k)) q2o)))
def qzr : IC := zr [zm 34 3, zm 2 34]
def k0cm : IC := (.seq q2a (.seq (.seq q0y (.cond (.t 7) (.seq q6n .ret) .skip)) (.seq q7k (.seq (.seq q81 (.block 0 (.loop q1i))) (.seq qzr .ret)))))
@[go_sem] def s0cm : List (RV × Co) := [(.t 2, (.sl 4))]
theorem c0cm : cFun Try.prog 41 = some (35, k0cm, s0cm) := by kernel_rfl

def q5o : IC := zr [zi 5 (.box (.t 2)), zv 6 (.mov (.c .nils)), zv 7 (.mov (zc 0))]
def qbam : IC := zr [zv 11 (.ld true 3 (.t 5)), zi 12 (.call (.c (.fn 79 [] [])) [((.t 11), (.agg [.id, .id, (.sl 3)]))]), zv 13 (.un .not (.t 12))]
def qba7 : IC := zr [zm 14 0, zm 6 14, zv 7 (.mov (zc 1))]
def q32 : IC := zr [zm 16 0, zm 17 1, zi 18 (.call (.c (.fn 38 [] [])) [((.t 16), (.sl 4)), ((.t 17), .id)]), zm 15 18, zv 19 (.ext (.t 15) 0), zv 20 (.ext (.t 15) 1), zi 8 (.alo [(.str []), (.int .i64 0), .nils]), zn (.st 3 (.agg [.id, .id, (.sl 3)]) (.t 8) (.t 19)), zm 9 20]
def q1o : IC := zr [zm 21 9]
def q9e : IC := zr [zm 22 0, zm 6 22, zv 7 (.mov (zc 6))]
def q85 : IC := zr [zv 10 (.mov (zc 0))]
def q8q : IC := zr [zm 23 10, zm 24 0, zv 25 (.len false (.t 24)), zv 26 (.bin .lss .no (.t 23) (.t 25)), zm 27 26, zw 27 true 28 (.mov (.t 0)), zw 27 true 29 (.mov (.t 10)), zw 27 true 30 (.iad 4 (.t 28) (.t 29)), zw 27 true 31 (.fad (.t 30) 0), zw 27 true 32 (.ld false 1 (.t 31)), zw 27 true 33 (.mov (.t 1)), zw 27 true 34 (.bin .lss .no (.t 32) (.t 33)), zv 35 (.pick (.t 27) (.t 34) (.c (.bool false)))]
def qbc3 : IC := zr [zm 36 10, zv 37 (.bin .add .no (.t 36) (zc 1)), zm 10 37]
def q9w : IC := (.seq (.seq q8q (.cond (.t 35) .skip (.exit 0))) (.block 1 qbc3))
def qxi : IC := .drw [zp (zm 38 0), zp (zm 39 10), zp (zv 40 (.slv 4 (.t 38) none (some (.t 39)) none)), (zi 41 (.app 4 (.agg [(.int .i64 0), (.str []), (.int .i64 0), .nils]) 56 (.sl 4) (.c .nils) (.t 40)), []), zp (zm 42 1), (zv 43 (.ld true 3 (.t 5)), [3]), (zv 44 (.bld [(.int .i64 0), (.str []), (.int .i64 0), .nils] [(0, 1, (.t 42)), (1, 3, (.t 43))]), []), (zv 45 (.bsl 4 [((.t 44), (.agg [.id, .id, .id, (.sl 3)]))]), [3]), (zi 46 (.app 4 (.agg [(.int .i64 0), (.str []), (.int .i64 0), .nils]) 56 (.sl 4) (.t 41) (.t 45)), []), zp (zm 47 0), zp (zm 48 10), (zv 49 (.slv 4 (.t 47) (some (.t 48)) none none), [3, 8]), (zi 50 (.app 4 (.agg [(.int .i64 0), (.str []), (.int .i64 0), .nils]) 56 (.sl 4) (.t 46) (.t 49)), []), zp (zm 6 50), zp (zv 7 (.mov (zc 0)))]
def k0bt : IC := (.seq q5o (.seq (.seq qbam (.cond (.t 13) (.seq qba7 .ret) .skip)) (.seq (.seq q32 (.seq q1o (.cond (.t 21) (.seq q9e .ret) .skip))) (.seq q85 (.seq (.block 0 (.loop q9w)) (.seq qxi .ret))))))
@[go_sem] def s0bt : List (RV × Co) := [(.t 6, (.sl 4)), (.t 7, .id)]
theorem c0bt : cFun Try.prog 44 = some (51, k0bt, s0bt) := by kernel_rfl

def q1d : IC := zr [zi 5 (.box (.t 2)), zv 6 (.mov (zc 0))]
def qbci : IC := zr [zm 9 0, zv 10 (.bin .eql .ptr (.t 9) (.c .nilp)), zm 11 10, zw 11 false 12 (.ld true 3 (.t 5)), ⟨some (11, false), some 13, .call (.c (.fn 48 [] [])) [((.t 12), (.agg [.id, .id, (.sl 3)]))]⟩, zw 11 false 14 (.un .not (.t 13)), zv 15 (.pick (.t 11) (.c (.bool true)) (.t 14))]
def q09 : IC := zr [zv 6 (.mov (zc 1))]
def qbag : IC := zr [zm 17 0, zm 18 1, zi 19 (.call (.c (.fn 82 [] [])) [((.t 17), .id), ((.t 18), .id)]), zm 16 19, zv 20 (.ext (.t 16) 0), zv 21 (.ext (.t 16) 1), zm 7 20, zm 8 21]
def q3q : IC := zr [zm 22 8]
def q2n : IC := zr [zv 6 (.mov (zc 6))]
def q9u : IC := .drw [zp (zm 23 0), zp (zm 24 0), zp (zv 25 (.nck (.t 24))), zp (zv 26 (.fad (.t 25) 0)), zp (zv 27 (.ld false 1 (.t 26))), zp (zm 28 7), zp (zm 29 1), zp (zv 30 (.ld true 3 (.t 5))), (zi 31 (.call (.c (.fn 83 [] [])) [((.t 30), (.agg [.id, .id, (.sl 3)]))]), [4]), (zv 32 (.bld [(.int .i64 0), (.str []), (.int .i64 0), .nils] [(0, 1, (.t 29)), (1, 3, (.t 31))]), []), (zv 33 (.bsl 4 [((.t 32), (.agg [.id, .id, .id, (.sl 3)]))]), []), (zi 34 (.call (.c (.fn 85 [] [])) [((.t 27), (.sl 4)), ((.t 28), .id), ((.t 33), (.sl 4))]), []), zp (zv 35 (.nck (.t 23))), zp (zv 36 (.fad (.t 35) 0)), (zn (.st 1 (.sl 4) (.t 36) (.t 34)), [])]
def q9d : IC := zr [zv 6 (.mov (zc 0))]
def k0bm : IC := (.seq q1d (.seq (.seq qbci (.cond (.t 15) (.seq q09 .ret) .skip)) (.seq qbag (.seq (.seq q3q (.cond (.t 22) (.seq q2n .ret) .skip)) (.seq q9u (.seq q9d .ret))))))
@[go_sem] def s0bm : List (RV × Co) := [(.t 6, .id)]
theorem c0bm : cFun Try.prog 45 = some (37, k0bm, s0bm) := by kernel_rfl

def qbcz : IC := zr [zi 1 (.box (.t 0)), zv 2 zf]
def q9h : IC := zr [zi 3 (.alo [(.int .i64 0)]), zn (.st 1 .id (.t 3) (zc 0))]
def q23 : IC := zr [zv 4 (.ld true 3 (.t 1)), zv 5 (.mfn 87 [] [(.t 3)]), zi 6 (.call (.c (.fn 86 [] [])) [((.t 4), (.agg [.id, .id, (.sl 3)])), ((zc 1), .id), ((.t 5), .id)]), zm 2 6]
def k0bz : IC := (.seq qbcz (.seq q9h (.seq q23 .ret)))
@[go_sem] def s0bz : List (RV × Co) := [(.t 2, .id)]
theorem c0bz : cFun Try.prog 48 = some (7, k0bz, s0bz) := by kernel_rfl

def q1y : IC := zr [zv 0 zf]
def q27 : IC := zr [zi 8 (.call (.c (.fn 90 [] [])) [((.c (.str [97, 32, 45, 62, 32, 97])), .id)]), zi 9 (.call (.c (.fn 90 [] [])) [((.c (.str [84, 32, 45, 62, 32, 85])), .id)]), zi 10 (.call (.c (.fn 52 [] [])) [((.t 8), (.agg [.id, .id, (.sl 3)])), ((.t 9), (.agg [.id, .id, (.sl 3)]))]), zm 7 10, zv 11 (.ext (.t 7) 0), zv 12 (.ext (.t 7) 1), zm 1 11, zm 2 12]
def q61 : IC := zr [zi 14 (.call (.c (.fn 90 [] [])) [((.c (.str [97, 32, 45, 62, 32, 98])), .id)]), zi 15 (.call (.c (.fn 90 [] [])) [((.c (.str [98, 32, 45, 62, 32, 84, 32, 97])), .id)]), zi 16 (.call (.c (.fn 52 [] [])) [((.t 14), (.agg [.id, .id, (.sl 3)])), ((.t 15), (.agg [.id, .id, (.sl 3)]))]), zm 13 16, zv 17 (.ext (.t 13) 0), zv 18 (.ext (.t 13) 1), zm 3 17, zm 4 18]
def qbbg : IC := zr [zm 20 3, zi 21 (.call (.c (.fn 37 [] [])) [((.t 20), .id), ((zc 0), .id)]), zm 19 21, zv 22 (.ext (.t 19) 0), zv 23 (.ext (.t 19) 1), zi 5 (.alo [(.str []), (.int .i64 0), .nils]), zn (.st 3 (.agg [.id, .id, (.sl 3)]) (.t 5) (.t 22)), zm 6 23]
def qbbs : IC := zr [zm 24 2, zv 25 (.bin .eql .no (.t 24) (zc 14)), zm 26 25, zw 26 true 27 (.mov (.t 4)), zw 26 true 28 (.bin .eql .no (.t 27) (zc 0)), zv 29 (.pick (.t 26) (.t 28) (.c (.bool false))), zm 30 29, zw 30 true 31 (.mov (.t 6)), zv 32 (.pick (.t 30) (.t 31) (.c (.bool false))), zm 33 32, zw 33 true 34 (.fad (.t 5) 1), zw 33 true 35 (.ld false 1 (.t 34)), zw 33 true 36 (.bin .eql .no (.t 35) (zc 1)), zv 37 (.pick (.t 33) (.t 36) (.c (.bool false))), zm 38 37, ⟨some (38, true), some 39, .call (.c (.fn 90 [] [])) [((.c (.str [97])), .id)]⟩, ⟨some (38, true), some 40, .call (.c (.fn 90 [] [])) [((.c (.str [84])), .id)]⟩, ⟨some (38, true), some 41, .call (.c (.fn 54 [] [])) [((.t 39), (.agg [.id, .id, (.sl 3)])), ((.t 40), (.agg [.id, .id, (.sl 3)]))]⟩, zv 42 (.pick (.t 38) (.t 41) (.c (.bool false))), zm 43 42, ⟨some (43, true), some 44, .call (.c (.fn 90 [] [])) [((.c (.str [84])), .id)]⟩, ⟨some (43, true), some 45, .call (.c (.fn 90 [] [])) [((.c (.str [97])), .id)]⟩, ⟨some (43, true), some 46, .call (.c (.fn 54 [] [])) [((.t 44), (.agg [.id, .id, (.sl 3)])), ((.t 45), (.agg [.id, .id, (.sl 3)]))]⟩, zw 43 true 47 (.un .not (.t 46)), zv 48 (.pick (.t 43) (.t 47) (.c (.bool false))), zm 49 48, ⟨some (49, true), some 50, .call (.c (.fn 90 [] [])) [((.c (.str [97, 32, 45, 62, 32, 98])), .id)]⟩, ⟨some (49, true), some 51, .call (.c (.fn 90 [] [])) [((.c (.str [98, 32, 45, 62, 32, 99])), .id)]⟩, ⟨some (49, true), some 52, .call (.c (.fn 56 [] [])) [((.t 50), (.agg [.id, .id, (.sl 3)])), ((.t 51), (.agg [.id, .id, (.sl 3)]))]⟩, zv 53 (.pick (.t 49) (.t 52) (.c (.bool false))), zm 54 53, ⟨some (54, true), some 55, .call (.c (.fn 90 [] [])) [((.c (.str [97, 32, 45, 62, 32, 98])), .id)]⟩, ⟨some (54, true), some 56, .call (.c (.fn 90 [] [])) [((.c (.str [97, 32, 45, 62, 32, 97])), .id)]⟩, ⟨some (54, true), some 57, .call (.c (.fn 56 [] [])) [((.t 55), (.agg [.id, .id, (.sl 3)])), ((.t 56), (.agg [.id, .id, (.sl 3)]))]⟩, zw 54 true 58 (.un .not (.t 57)), zv 59 (.pick (.t 54) (.t 58) (.c (.bool false))), zm 0 59]
def k0bb : IC := (.seq q1y (.seq q27 (.seq q61 (.seq qbbg (.seq qbbs .ret)))))
@[go_sem] def s0bb : List (RV × Co) := [(.t 0, .id)]
theorem c0bb : cFun Try.prog 51 = some (60, k0bb, s0bb) := by kernel_rfl

def q8j : IC := zr [zi 2 (.box (.t 0)), zi 3 (.box (.t 1)), zv 4 (.mov (.c .nilp)), zv 5 (.mov (zc 0))]
def q4w : IC := zr [zv 6 (.ld true 3 (.t 2)), zv 7 (.bsl 3 [((.t 6), (.agg [.id, .id, (.sl 3)]))]), zv 8 (.ld true 3 (.t 3)), zv 9 (.bsl 3 [((.t 8), (.agg [.id, .id, (.sl 3)]))]), zi 10 (.call (.c (.fn 57 [] [])) [((.t 7), (.sl 3)), ((.t 9), (.sl 3))]), zv 11 (.ext (.t 10) 0), zv 12 (.ext (.t 10) 1), zm 4 11, zm 5 12]
def k0bd : IC := (.seq q8j (.seq q4w .ret))
@[go_sem] def s0bd : List (RV × Co) := [(.t 4, .id), (.t 5, .id)]
theorem c0bd : cFun Try.prog 52 = some (13, k0bd, s0bd) := by kernel_rfl

def q78 : IC := zr [zi 2 (.box (.t 0)), zi 3 (.box (.t 1)), zv 4 (.mov (.c .nils)), zv 5 (.mov (zc 0))]
def q06 : IC := zr [zv 6 (.ld true 3 (.t 2)), zv 7 (.bsl 3 [((.t 6), (.agg [.id, .id, (.sl 3)]))]), zv 8 (.ld true 3 (.t 3)), zv 9 (.bsl 3 [((.t 8), (.agg [.id, .id, (.sl 3)]))]), zi 10 (.call (.c (.fn 58 [] [])) [((.t 7), (.sl 3)), ((.t 9), (.sl 3))]), zv 11 (.ext (.t 10) 0), zv 12 (.ext (.t 10) 1), zm 4 11, zm 5 12]
def k0cv : IC := (.seq q78 (.seq q06 .ret))
@[go_sem] def s0cv : List (RV × Co) := [(.t 4, (.sl 4)), (.t 5, .id)]
theorem c0cv : cFun Try.prog 53 = some (13, k0cv, s0cv) := by kernel_rfl

def qbab : IC := zr [zi 2 (.box (.t 0)), zi 3 (.box (.t 1)), zv 4 zf]
def q9a : IC := zr [zv 8 (.ld true 3 (.t 2)), zv 9 (.ld true 3 (.t 3)), zi 10 (.call (.c (.fn 52 [] [])) [((.t 8), (.agg [.id, .id, (.sl 3)])), ((.t 9), (.agg [.id, .id, (.sl 3)]))]), zm 7 10, zv 11 (.ext (.t 7) 0), zv 12 (.ext (.t 7) 1), zm 5 11, zm 6 12]
def q6b : IC := zr [zm 13 6, zv 14 (.bin .eql .no (.t 13) (zc 0)), zm 4 14]
def k0be : IC := (.seq qbab (.seq q9a (.seq q6b .ret)))
@[go_sem] def s0be : List (RV × Co) := [(.t 4, .id)]
theorem c0be : cFun Try.prog 54 = some (15, k0be, s0be) := by kernel_rfl

def qbcs : IC := zr [zi 2 (.box (.t 0)), zi 3 (.box (.t 1)), zv 4 zf]
def q66 : IC := zr [zv 8 (.ld true 3 (.t 2)), zv 9 (.ld true 3 (.t 3)), zi 10 (.call (.c (.fn 53 [] [])) [((.t 8), (.agg [.id, .id, (.sl 3)])), ((.t 9), (.agg [.id, .id, (.sl 3)]))]), zm 7 10, zv 11 (.ext (.t 7) 0), zv 12 (.ext (.t 7) 1), zm 5 11, zm 6 12]
def q7u : IC := zr [zm 13 6, zv 14 (.bin .eql .no (.t 13) (zc 0)), zm 4 14]
def k0cw : IC := (.seq qbcs (.seq q66 (.seq q7u .ret)))
@[go_sem] def s0cw : List (RV × Co) := [(.t 4, .id)]
theorem c0cw : cFun Try.prog 55 = some (15, k0cw, s0cw) := by kernel_rfl

def qbai : IC := zr [zi 2 (.box (.t 0)), zi 3 (.box (.t 1)), zv 4 zf]
def qbbc : IC := zr [zv 5 (.ld true 3 (.t 2)), zv 6 (.ld true 3 (.t 3)), zi 7 (.call (.c (.fn 54 [] [])) [((.t 5), (.agg [.id, .id, (.sl 3)])), ((.t 6), (.agg [.id, .id, (.sl 3)]))]), zm 8 7, zw 8 true 9 (.ld true 3 (.t 3)), zw 8 true 10 (.ld true 3 (.t 2)), ⟨some (8, true), some 11, .call (.c (.fn 54 [] [])) [((.t 9), (.agg [.id, .id, (.sl 3)])), ((.t 10), (.agg [.id, .id, (.sl 3)]))]⟩, zv 12 (.pick (.t 8) (.t 11) (.c (.bool false))), zm 4 12]
def k0bf : IC := (.seq qbai (.seq qbbc .ret))
@[go_sem] def s0bf : List (RV × Co) := [(.t 4, .id)]
theorem c0bf : cFun Try.prog 56 = some (13, k0bf, s0bf) := by kernel_rfl

def q2t : IC := zr [zv 4 (.mov (.c .nilp)), zv 5 (.mov (zc 0))]
def q7y : IC := zr [zm 7 0, zi 8 (.call (.c (.fn 91 [] [])) [((.t 7), (.sl 3))]), zv 9 (.un .not (.t 8)), zm 10 9, zw 10 false 11 (.mov (.t 1)), ⟨some (10, false), some 12, .call (.c (.fn 91 [] [])) [((.t 11), (.sl 3))]⟩, zw 10 false 13 (.un .not (.t 12)), zv 14 (.pick (.t 10) (.c (.bool true)) (.t 13))]
def q3y : IC := zr [zv 4 (.mov (.c .nilp)), zv 5 (.mov (zc 1))]
def qbcx : IC := zr [zi 15 (.call (.c (.fn 33 [] [])) [((.c .nils), (.sl 4))]), zi 6 (.alo [.nilp]), zn (.st 1 .id (.t 6) (.t 15))]
def q9y : IC := zr [zm 16 0, zm 17 1, zv 18 (.mfn 93 [] [(.t 6)]), zi 19 (.call (.c (.fn 92 [] [])) [((.t 16), (.sl 3)), ((.t 17), (.sl 3)), ((.t 18), .id)]), zv 20 (.un .not (.t 19))]
def q2z : IC := zr [zv 4 (.mov (.c .nilp)), zv 5 (.mov (zc 14))]
def qbcu : IC := zr [zv 21 (.ld false 1 (.t 6)), zm 4 21, zv 5 (.mov (zc 0))]
def k0bc : IC := (.seq q2t (.seq (.seq q7y (.cond (.t 14) (.seq q3y .ret) .skip)) (.seq qbcx (.seq (.seq q9y (.cond (.t 20) (.seq q2z .ret) .skip)) (.seq qbcu .ret)))))
@[go_sem] def s0bc : List (RV × Co) := [(.t 4, .id), (.t 5, .id)]
theorem c0bc : cFun Try.prog 57 = some (22, k0bc, s0bc) := by kernel_rfl

def q3v : IC := zr [zv 4 (.mov (.c .nils)), zv 5 (.mov (zc 0))]
def q05 : IC := zr [zm 10 0, zi 11 (.call (.c (.fn 95 [] [])) [((.t 10), (.sl 3))]), zv 12 (.un .not (.t 11)), zm 13 12, zw 13 false 14 (.mov (.t 1)), ⟨some (13, false), some 15, .call (.c (.fn 95 [] [])) [((.t 14), (.sl 3))]⟩, zw 13 false 16 (.un .not (.t 15)), zv 17 (.pick (.t 13) (.c (.bool true)) (.t 16))]
def qbcq : IC := zr [zv 4 (.mov (.c .nils)), zv 5 (.mov (zc 1))]
def qbbn : IC := zr [zm 18 0, zv 19 (.len false (.t 18)), zm 20 1, zv 21 (.len false (.t 20)), zv 22 (.bin .neq .no (.t 19) (.t 21))]
def q03 : IC := zr [zv 4 (.mov (.c .nils)), zv 5 (.mov (zc 14))]
def q6m : IC := zr [zv 6 (.mov (.c .nils))]
def qbcm : IC := zr [zv 7 (.mov (zc 0))]
def q88 : IC := zr [zm 23 7, zm 24 0, zv 25 (.len false (.t 24)), zv 26 (.bin .lss .no (.t 23) (.t 25))]
def q3o : IC := .drw [zp (zm 30 6), zp (zm 31 0), zp (zm 32 7), zp (zv 33 (.iad 3 (.t 31) (.t 32))), zp (zv 34 (.ld true 3 (.t 33))), zp (zm 35 1), zp (zm 36 7), zp (zv 37 (.iad 3 (.t 35) (.t 36))), zp (zv 38 (.ld true 3 (.t 37))), (zi 39 (.call (.c (.fn 96 [] [])) [((.t 30), (.sl 4)), ((.t 34), (.agg [.id, .id, (.sl 3)])), ((.t 38), (.agg [.id, .id, (.sl 3)]))]), []), zp (zm 29 39), zp (zv 40 (.ext (.t 29) 0)), zp (zv 41 (.ext (.t 29) 1)), zp (zm 8 40), zp (zm 9 41)]
def qzo : IC := zr [zm 42 9, zv 43 (.bin .neq .no (.t 42) (zc 0))]
def qy2 : IC := zr [zm 44 9, zv 4 (.mov (.c .nils)), zm 5 44]
def qxr : IC := zr [zm 45 8, zm 6 45]
def qxo : IC := zr [zm 27 7, zv 28 (.bin .add .no (.t 27) (zc 1)), zm 7 28]
def q65 : IC := (.seq (.seq q88 (.cond (.t 26) .skip (.exit 0))) (.seq (.block 1 (.seq q3o (.seq (.seq qzo (.cond (.t 43) (.seq qy2 .ret) .skip)) qxr))) qxo))
def qxq : IC := zr [zm 46 6, zm 4 46, zv 5 (.mov (zc 0))]
def k0cu : IC := (.seq q3v (.seq (.seq q05 (.cond (.t 17) (.seq qbcq .ret) .skip)) (.seq (.seq qbbn (.cond (.t 22) (.seq q03 .ret) .skip)) (.seq q6m (.seq (.seq qbcm (.block 0 (.loop q65))) (.seq qxq .ret))))))
@[go_sem] def s0cu : List (RV × Co) := [(.t 4, (.sl 4)), (.t 5, .id)]
theorem c0cu : cFun Try.prog 58 = some (47, k0cu, s0cu) := by kernel_rfl

def qbfp : IC := zr [zv 2 zf]
def qbhi : IC := zr [zm 3 0, zv 4 (.bin .neq .no (.t 3) (.c (.str []))), zm 5 4, zw 5 true 6 (.mov (.t 0)), zw 5 true 7 (.idx (.t 6) (zc 0)), ⟨some (5, true), some 8, .call (.c (.fn 106 [] [])) [((.t 7), .id)]⟩, zv 9 (.pick (.t 5) (.t 8) (.c (.bool false))), zm 10 9, zw 10 true 11 (.mov (.t 0)), ⟨some (10, true), some 12, .call (.c (.fn 107 [] [])) [((.t 11), .id)]⟩, zv 13 (.pick (.t 10) (.t 12) (.c (.bool false))), zm 2 13]
def k0t : IC := (.seq qbfp (.seq qbhi .ret))
@[go_sem] def s0t : List (RV × Co) := [(.t 2, .id)]
theorem c0t : cFun Try.prog 72 = some (14, k0t, s0t) := by kernel_rfl

def q2f : IC := zr [zi 1 (.box (.t 0)), zv 2 (.mov (.c (.str [])))]
def qba2 : IC := zr [zv 3 (.ld true 3 (.t 1)), zi 4 (.call (.c (.fn 48 [] [])) [((.t 3), (.agg [.id, .id, (.sl 3)]))]), zv 5 (.un .not (.t 4))]
def q2x : IC := zr [zv 2 (.mov (.c (.str [])))]
def q2u : IC := zr [zv 6 (.ld true 3 (.t 1)), zi 7 (.call (.c (.fn 109 [] [])) [((.t 6), (.agg [.id, .id, (.sl 3)]))]), zm 2 7]
def k0bx : IC := (.seq q2f (.seq (.seq qba2 (.cond (.t 5) (.seq q2x .ret) .skip)) (.seq q2u .ret)))
@[go_sem] def s0bx : List (RV × Co) := [(.t 2, .id)]
theorem c0bx : cFun Try.prog 75 = some (8, k0bx, s0bx) := by kernel_rfl

def qbfv : IC := zr [zi 2 (.box (.t 0)), zi 3 (.box (.t 1)), zv 4 zf]
def qbi2 : IC := .drw [zp (zv 6 (.ld true 3 (.t 2))), (zi 7 (.call (.c (.fn 88 [] [])) [((.t 6), (.agg [.id, .id, (.sl 3)]))]), []), (zv 8 (.ld true 3 (.t 3)), [1]), (zi 9 (.call (.c (.fn 88 [] [])) [((.t 8), (.agg [.id, .id, (.sl 3)]))]), []), (zv 10 (.bin .neq (.cells [.str, (.int .i64), (.int .i64)]) (.t 7) (.t 9)), [])]
def qbfr : IC := zr [zv 4 zf]
def qbh6 : IC := zr [zv 11 (.fad (.t 2) 2), zv 12 (.ld false 1 (.t 11)), zv 13 (.len false (.t 12)), zv 14 (.mov (zc 0))]
def qbf1 : IC := zr [zv 15 (.bin .lss .no (.t 14) (.t 13))]
def qbf6 : IC := zr [zm 16 14, zm 5 16]
def qbjg : IC := .drw [zp (zv 17 (.fad (.t 2) 2)), zp (zv 18 (.ld false 1 (.t 17))), zp (zm 19 5), zp (zv 20 (.iad 3 (.t 18) (.t 19))), zp (zv 21 (.ld true 3 (.t 20))), zp (zv 22 (.fad (.t 3) 2)), zp (zv 23 (.ld false 1 (.t 22))), zp (zm 24 5), zp (zv 25 (.iad 3 (.t 23) (.t 24))), zp (zv 26 (.ld true 3 (.t 25))), (zi 27 (.call (.c (.fn 76 [] [])) [((.t 21), (.agg [.id, .id, (.sl 3)])), ((.t 26), (.agg [.id, .id, (.sl 3)]))]), []), zp (zv 28 (.un .not (.t 27)))]
def qbi7 : IC := zr [zv 4 zf]
def qbfq : IC := zr [zv 29 (.bin .add .no (.t 14) (zc 1)), zm 14 29]
def qbjf : IC := (.seq qbf1 (.seq (.cond (.t 15) .skip (.exit 0)) (.seq (.block 1 (.seq qbf6 (.seq qbjg (.cond (.t 28) (.seq qbi7 .ret) .skip)))) qbfq)))
def qbb7 : IC := zr [zv 4 (.mov (.c (.bool true)))]
def k0b : IC := (.seq qbfv (.seq (.seq qbi2 (.cond (.t 10) (.seq qbfr .ret) .skip)) (.seq (.seq qbh6 (.block 0 (.loop qbjf))) (.seq qbb7 .ret))))
@[go_sem] def s0b : List (RV × Co) := [(.t 4, .id)]
theorem c0b : cFun Try.prog 76 = some (30, k0b, s0b) := by kernel_rfl

def q79 : IC := zr [zi 3 (.box (.t 0)), zv 6 (.mov (zc 0))]
def q3l : IC := zr [zm 8 1, zv 9 (.bin .sub .no (.t 8) (zc 1)), zm 1 9]
def q38 : IC := zr [zm 10 2, zv 11 (.bin .lss .no (.t 10) (zc 1))]
def q39 : IC := zr [zv 6 (.mov (zc (-1)))]
def qbcc : IC := zr [zv 7 (.mov (zc 0))]
def q5f : IC := zr [zm 12 7, zv 13 (.fad (.t 3) 2), zv 14 (.ld false 1 (.t 13)), zv 15 (.len false (.t 14)), zv 16 (.bin .lss .no (.t 12) (.t 15)), zm 17 16, zw 17 true 18 (.mov (.t 1)), zw 17 true 19 (.bin .geq .no (.t 18) (zc 0)), zv 20 (.pick (.t 17) (.t 19) (.c (.bool false)))]
def q15 : IC := zr [zv 23 (.fad (.t 3) 2), zv 24 (.ld false 1 (.t 23)), zm 25 7, zv 26 (.iad 3 (.t 24) (.t 25)), zv 27 (.ld true 3 (.t 26)), zm 28 1, zm 29 2, zv 30 (.bin .sub .no (.t 29) (zc 1)), zi 31 (.call (.c (.fn 77 [] [])) [((.t 27), (.agg [.id, .id, (.sl 3)])), ((.t 28), .id), ((.t 30), .id)]), zm 1 31]
def q51 : IC := zr [zm 21 7, zv 22 (.bin .add .no (.t 21) (zc 1)), zm 7 22]
def q0q : IC := (.seq (.seq q5f (.cond (.t 20) .skip (.exit 0))) (.seq (.block 1 q15) q51))
def qz1 : IC := zr [zm 32 1, zm 6 32]
def k0cd : IC := (.seq q79 (.seq q3l (.seq (.seq q38 (.cond (.t 11) (.seq q39 .ret) .skip)) (.seq (.seq qbcc (.block 0 (.loop q0q))) (.seq qz1 .ret)))))
@[go_sem] def s0cd : List (RV × Co) := [(.t 6, .id)]
theorem c0cd : cFun Try.prog 77 = some (33, k0cd, s0cd) := by kernel_rfl

def q20 : IC := zr [zi 1 (.box (.t 0)), zv 2 zf]
def q28 : IC := zr [zv 3 (.ld true 3 (.t 1)), zi 4 (.call (.c (.fn 112 [] [])) [((.t 3), (.agg [.id, .id, (.sl 3)]))]), zv 5 (.bin .leq .no (.t 4) (zc 4096)), zm 6 5, zw 6 true 7 (.ld true 3 (.t 1)), ⟨some (6, true), some 8, .call (.c (.fn 113 [] [])) [((.t 7), (.agg [.id, .id, (.sl 3)]))]⟩, zw 6 true 9 (.bin .leq .no (.t 8) (zc 100)), zv 10 (.pick (.t 6) (.t 9) (.c (.bool false))), zm 11 10, zw 11 true 12 (.ld true 3 (.t 1)), ⟨some (11, true), some 13, .call (.c (.fn 114 [] [])) [((.t 12), (.agg [.id, .id, (.sl 3)]))]⟩, zv 14 (.pick (.t 11) (.t 13) (.c (.bool false))), zm 2 14]
def k0cf : IC := (.seq q20 (.seq q28 .ret))
@[go_sem] def s0cf : List (RV × Co) := [(.t 2, .id)]
theorem c0cf : cFun Try.prog 79 = some (15, k0cf, s0cf) := by kernel_rfl

def q6x : IC := zr [zi 3 (.box (.t 1)), zv 4 (.mov (zc 0))]
def q9b : IC := zr [zv 9 (.fad (.t 3) 0), zv 10 (.ld false 1 (.t 9)), zv 11 (.bin .eql .no (.t 10) (.c (.str [])))]
def qbb6 : IC := zr [zm 13 0, zv 14 (.fad (.t 3) 1), zv 15 (.ld false 1 (.t 14)), zi 16 (.call (.c (.fn 38 [] [])) [((.t 13), (.sl 4)), ((.t 15), .id)]), zm 12 16, zv 17 (.ext (.t 12) 0), zv 18 (.ext (.t 12) 1), zi 5 (.alo [(.str []), (.int .i64 0), .nils]), zn (.st 3 (.agg [.id, .id, (.sl 3)]) (.t 5) (.t 17)), zm 6 18]
def q69 : IC := zr [zm 19 6]
def q6z : IC := zr [zv 20 (.ld true 3 (.t 5)), zi 21 (.call (.c (.fn 112 [] [])) [((.t 20), (.agg [.id, .id, (.sl 3)]))]), zm 4 21]
def q7t : IC := zr [zv 4 (.mov (zc 1))]
def q1u : IC := zr [zv 7 (.mov (zc 1))]
def q6t : IC := zr [zv 8 (.mov (zc 0))]
def q2k : IC := zr [zm 22 8, zv 23 (.fad (.t 3) 2), zv 24 (.ld false 1 (.t 23)), zv 25 (.len false (.t 24)), zv 26 (.bin .lss .no (.t 22) (.t 25))]
def qyu : IC := zr [zm 29 7, zm 30 0, zv 31 (.fad (.t 3) 2), zv 32 (.ld false 1 (.t 31)), zm 33 8, zv 34 (.iad 3 (.t 32) (.t 33)), zv 35 (.ld true 3 (.t 34)), zi 36 (.call (.c (.fn 80 [] [])) [((.t 30), (.sl 4)), ((.t 35), (.agg [.id, .id, (.sl 3)]))]), zv 37 (.bin .add .no (.t 29) (.t 36)), zm 7 37]
def qv4 : IC := zr [zm 27 8, zv 28 (.bin .add .no (.t 27) (zc 1)), zm 8 28]
def q1c : IC := (.seq (.seq q2k (.cond (.t 26) .skip (.exit 0))) (.seq (.block 1 qyu) qv4))
def qyk : IC := zr [zm 38 7, zm 4 38]
def k0cq : IC := (.seq q6x (.seq (.seq q9b (.cond (.t 11) (.seq qbb6 (.seq (.seq q69 (.cond (.t 19) (.seq q6z .ret) .skip)) (.seq q7t .ret))) .skip)) (.seq q1u (.seq (.seq q6t (.block 0 (.loop q1c))) (.seq qyk .ret)))))
@[go_sem] def s0cq : List (RV × Co) := [(.t 4, .id)]
theorem c0cq : cFun Try.prog 80 = some (39, k0cq, s0cq) := by kernel_rfl

def q5y : IC := zr [zi 3 (.box (.t 1)), zi 4 (.alo [(.str []), (.int .i64 0), .nils])]
def q74 : IC := zr [zv 9 (.fad (.t 3) 0), zv 10 (.ld false 1 (.t 9)), zv 11 (.bin .eql .no (.t 10) (.c (.str [])))]
def q9g : IC := zr [zm 13 0, zv 14 (.fad (.t 3) 1), zv 15 (.ld false 1 (.t 14)), zi 16 (.call (.c (.fn 38 [] [])) [((.t 13), (.sl 4)), ((.t 15), .id)]), zm 12 16, zv 17 (.ext (.t 12) 0), zv 18 (.ext (.t 12) 1), zi 5 (.alo [(.str []), (.int .i64 0), .nils]), zn (.st 3 (.agg [.id, .id, (.sl 3)]) (.t 5) (.t 17)), zm 6 18]
def qbbu : IC := zr [zm 19 6]
def q8v : IC := zr [zv 20 (.ld true 3 (.t 5)), zn (.st 3 (.agg [.id, .id, (.sl 3)]) (.t 4) (.t 20))]
def q21 : IC := zr [zv 21 (.ld true 3 (.t 3)), zn (.st 3 (.agg [.id, .id, (.sl 3)]) (.t 4) (.t 21))]
def q1m : IC := zr [zv 7 (.mov (.c .nils))]
def qbbm : IC := zr [zv 8 (.mov (zc 0))]
def q3u : IC := zr [zm 22 8, zv 23 (.fad (.t 3) 2), zv 24 (.ld false 1 (.t 23)), zv 25 (.len false (.t 24)), zv 26 (.bin .lss .no (.t 22) (.t 25))]
def qwx : IC := zr [zm 29 7, zm 30 0, zv 31 (.fad (.t 3) 2), zv 32 (.ld false 1 (.t 31)), zm 33 8, zv 34 (.iad 3 (.t 32) (.t 33)), zv 35 (.ld true 3 (.t 34)), zi 36 (.call (.c (.fn 81 [] [])) [((.t 30), (.sl 4)), ((.t 35), (.agg [.id, .id, (.sl 3)]))]), zv 37 (.bsl 3 [((.t 36), (.agg [.id, .id, (.sl 3)]))]), zi 38 (.app 3 (.agg [(.str []), (.int .i64 0), .nils]) 48 (.sl 3) (.t 29) (.t 37)), zm 7 38]
def qxj : IC := zr [zm 27 8, zv 28 (.bin .add .no (.t 27) (zc 1)), zm 8 28]
def q7e : IC := (.seq (.seq q3u (.cond (.t 26) .skip (.exit 0))) (.seq (.block 1 qwx) qxj))
def qwb : IC := zr [zm 39 7, zv 40 (.fad (.t 3) 2), zn (.st 1 (.sl 3) (.t 40) (.t 39))]
def qyb : IC := zr [zv 41 (.ld true 3 (.t 3)), zn (.st 3 (.agg [.id, .id, (.sl 3)]) (.t 4) (.t 41))]
def k0cr : IC := (.seq q5y (.seq (.seq q74 (.cond (.t 11) (.seq q9g (.seq (.seq qbbu (.cond (.t 19) (.seq q8v .ret) .skip)) (.seq q21 .ret))) .skip)) (.seq q1m (.seq (.seq qbbm (.block 0 (.loop q7e))) (.seq qwb (.seq qyb .ret))))))
@[go_sem] def s0cr : List (RV × Co) := [(.c true 3 4, (.agg [.id, .id, (.sl 3)]))]
theorem c0cr : cFun Try.prog 81 = some (42, k0cr, s0cr) := by kernel_rfl

def qbck : IC := zr [zv 4 (.mov (zc 0)), zv 5 zf]
def q4b : IC := zr [zm 6 0, zv 7 (.nck (.t 6)), zv 8 (.fad (.t 7) 0), zv 9 (.ld false 1 (.t 8)), zm 10 1, zi 11 (.call (.c (.fn 115 [] [])) [((.t 9), (.sl 4)), ((.t 10), .id), ((.c (.fn 116 [] [])), .id)]), zv 12 (.ext (.t 11) 0), zv 13 (.ext (.t 11) 1), zm 4 12, zm 5 13]
def k0bp : IC := (.seq qbck (.seq q4b .ret))
@[go_sem] def s0bp : List (RV × Co) := [(.t 4, .id), (.t 5, .id)]
theorem c0bp : cFun Try.prog 82 = some (14, k0bp, s0bp) := by kernel_rfl

def q9m : IC := zr [zi 1 (.box (.t 0)), zi 2 (.alo [(.str []), (.int .i64 0), .nils])]
def q1w : IC := zr [zv 6 (.fad (.t 1) 2), zv 7 (.ld false 1 (.t 6)), zv 8 (.len false (.t 7)), zi 9 (.mks 3 (.agg [(.str []), (.int .i64 0), .nils]) 48 (.t 8) (.t 8)), zm 3 9]
def q8a : IC := zr [zv 10 (.fad (.t 1) 2), zv 11 (.ld false 1 (.t 10)), zv 12 (.len false (.t 11)), zv 13 (.mov (zc 0))]
def qbbw : IC := zr [zv 14 (.bin .lss .no (.t 13) (.t 12))]
def q5x : IC := zr [zm 15 13, zv 16 (.iad 3 (.t 11) (.t 13)), zv 17 (.ld true 3 (.t 16)), zi 5 (.alo [(.str []), (.int .i64 0), .nils]), zm 4 15, zn (.st 3 (.agg [.id, .id, (.sl 3)]) (.t 5) (.t 17))]
def q3j : IC := zr [zm 18 3, zm 19 4, zv 20 (.ld true 3 (.t 5)), zi 21 (.call (.c (.fn 83 [] [])) [((.t 20), (.agg [.id, .id, (.sl 3)]))]), zv 22 (.iad 3 (.t 18) (.t 19)), zn (.st 3 (.agg [.id, .id, (.sl 3)]) (.t 22) (.t 21))]
def q6k : IC := zr [zv 23 (.bin .add .no (.t 13) (zc 1)), zm 13 23]
def q9r : IC := (.seq qbbw (.seq (.cond (.t 14) .skip (.exit 0)) (.seq (.block 1 (.seq q5x q3j)) q6k)))
def qbap : IC := zr [zm 24 3, zv 25 (.fad (.t 1) 2), zn (.st 1 (.sl 3) (.t 25) (.t 24))]
def qxa : IC := zr [zv 26 (.ld true 3 (.t 1)), zn (.st 3 (.agg [.id, .id, (.sl 3)]) (.t 2) (.t 26))]
def k0br : IC := (.seq q9m (.seq q1w (.seq (.seq q8a (.block 0 (.loop q9r))) (.seq qbap (.seq qxa .ret)))))
@[go_sem] def s0br : List (RV × Co) := [(.c true 3 2, (.agg [.id, .id, (.sl 3)]))]
theorem c0br : cFun Try.prog 83 = some (27, k0br, s0br) := by kernel_rfl

def qbd9 : IC := zr [zi 3 (.box (.t 0)), zv 6 zf]
def qbjb : IC := zr [zm 9 2, zv 10 (.ld true 3 (.t 3)), zm 11 1, zi 12 (.call (.t 9) [((.t 10), (.agg [.id, .id, (.sl 3)])), ((.t 11), .id)]), zv 13 (.un .not (.t 12))]
def qbej : IC := zr [zv 6 zf]
def qbjv : IC := zr [zv 14 (.fad (.t 3) 2), zv 15 (.ld false 1 (.t 14)), zv 16 (.len false (.t 15)), zv 17 (.mov (zc 0))]
def qbh3 : IC := zr [zv 18 (.bin .lss .no (.t 17) (.t 16))]
def qbe2 : IC := zr [zv 19 (.iad 3 (.t 15) (.t 17)), zv 20 (.ld true 3 (.t 19)), zi 8 (.alo [(.str []), (.int .i64 0), .nils]), zn (.st 3 (.agg [.id, .id, (.sl 3)]) (.t 8) (.t 20))]
def qbd0 : IC := zr [zv 21 (.ld true 3 (.t 8)), zm 22 1, zv 23 (.bin .add .no (.t 22) (zc 1)), zm 24 2, zi 25 (.call (.c (.fn 86 [] [])) [((.t 21), (.agg [.id, .id, (.sl 3)])), ((.t 23), .id), ((.t 24), .id)]), zv 26 (.un .not (.t 25))]
def qbio : IC := zr [zv 6 zf]
def qbek : IC := zr [zv 27 (.bin .add .no (.t 17) (zc 1)), zm 17 27]
def qbi1 : IC := (.seq qbh3 (.seq (.cond (.t 18) .skip (.exit 0)) (.seq (.block 1 (.seq qbe2 (.seq qbd0 (.cond (.t 26) (.seq qbio .ret) .skip)))) qbek)))
def q37 : IC := zr [zv 6 (.mov (.c (.bool true)))]
def k0g : IC := (.seq qbd9 (.seq (.seq qbjb (.cond (.t 13) (.seq qbej .ret) .skip)) (.seq (.seq qbjv (.block 0 (.loop qbi1))) (.seq q37 .ret))))
@[go_sem] def s0g : List (RV × Co) := [(.t 6, .id)]
theorem c0g : cFun Try.prog 86 = some (28, k0g, s0g) := by kernel_rfl

def q0r : IC := zr [zi 3 (.box (.t 0)), zv 5 zf]
def qbaf : IC := zr [zv 6 (.ld false 1 (.t 2)), zv 7 (.bin .add .no (.t 6) (zc 1)), zn (.st 1 .id (.t 2) (.t 7))]
def q5t : IC := zr [zv 8 (.ld false 1 (.t 2)), zv 9 (.bin .leq .no (.t 8) (zc 4096)), zm 10 9, zw 10 true 11 (.mov (.t 1)), zw 10 true 12 (.bin .leq .no (.t 11) (zc 100)), zv 13 (.pick (.t 10) (.t 12) (.c (.bool false))), zm 14 13, zw 14 true 15 (.ld true 3 (.t 3)), ⟨some (14, true), some 16, .call (.c (.fn 88 [] [])) [((.t 15), (.agg [.id, .id, (.sl 3)]))]⟩, ⟨some (14, true), some 17, .call (.c (.fn 89 [] [])) [((.t 16), .id)]⟩, zv 18 (.pick (.t 14) (.t 17) (.c (.bool false))), zm 5 18]
def k0by : IC := (.seq q0r (.seq qbaf (.seq q5t .ret)))
@[go_sem] def s0by : List (RV × Co) := [(.t 5, .id)]
theorem c0by : cFun Try.prog 87 = some (19, k0by, s0by) := by kernel_rfl

def qbev : IC := zr [zi 1 (.box (.t 0)), zi 2 (.alo [(.str []), (.int .i64 0), (.int .i64 0)])]
def qbjw : IC := zr [zv 3 (.fad (.t 1) 0), zv 4 (.ld false 1 (.t 3)), zv 5 (.fad (.t 1) 1), zv 6 (.ld false 1 (.t 5)), zv 7 (.fad (.t 1) 2), zv 8 (.ld false 1 (.t 7)), zv 9 (.len false (.t 8)), zv 10 (.bld [(.str []), (.int .i64 0), (.int .i64 0)] [(0, 1, (.t 4)), (1, 1, (.t 6)), (2, 1, (.t 9))]), zn (.st 3 .id (.t 2) (.t 10))]
def k0a : IC := (.seq qbev (.seq qbjw .ret))
@[go_sem] def s0a : List (RV × Co) := [(.c true 3 2, .id)]
theorem c0a : cFun Try.prog 88 = some (11, k0a, s0a) := by kernel_rfl

def qbgm : IC := zr [zi 1 (.box (.t 0)), zv 2 zf]
def qbgw : IC := zr [zv 4 (.fad (.t 1) 0), zv 5 (.ld false 1 (.t 4)), zv 6 (.bin .eql .no (.t 5) (.c (.str []))), zm 3 6]
def qbf5 : IC := zr [zv 7 (.fad (.t 1) 2), zv 8 (.ld false 1 (.t 7)), zv 9 (.bin .eql .no (.t 8) (zc 0)), zm 2 9]
def qbfi : IC := zr [zv 11 (.fad (.t 1) 0), zv 12 (.ld false 1 (.t 11)), zv 13 (.bin .eql .no (.t 12) (.c (.str [45, 62]))), zm 10 13]
def qbhn : IC := zr [zv 14 (.ld true 3 (.t 1)), zv 15 (.bld [(.str []), (.int .i64 0), (.int .i64 0)] [(0, 1, (.c (.str [45, 62]))), (1, 1, (zc 0)), (2, 1, (zc 2))]), zv 16 (.bin .eql (.cells [.str, (.int .i64), (.int .i64)]) (.t 14) (.t 15)), zm 2 16]
def qbec : IC := zr [zv 18 (.fad (.t 1) 0), zv 19 (.ld false 1 (.t 18)), zi 20 (.call (.c (.fn 119 [] [])) [((.t 19), .id)]), zm 17 20]
def qbhw : IC := zr [zv 21 (.ld true 3 (.t 1)), zv 22 (.fad (.t 1) 0), zv 23 (.ld false 1 (.t 22)), zv 24 (.bld [(.str []), (.int .i64 0), (.int .i64 0)] [(0, 1, (.t 23))]), zv 25 (.bin .eql (.cells [.str, (.int .i64), (.int .i64)]) (.t 21) (.t 24)), zm 2 25]
def qbdf : IC := zr [zv 26 (.fad (.t 1) 1), zv 27 (.ld false 1 (.t 26)), zv 28 (.bin .eql .no (.t 27) (zc 0)), zm 29 28, zw 29 true 30 (.fad (.t 1) 0), zw 29 true 31 (.ld false 1 (.t 30)), ⟨some (29, true), some 32, .call (.c (.fn 72 [] [])) [((.t 31), .id)]⟩, zv 33 (.pick (.t 29) (.t 32) (.c (.bool false))), zm 2 33]
def k0f : IC := (.seq qbgm (.seq (.block 0 (.seq qbgw (.cond (.t 3) (.seq qbf5 .ret) (.seq qbfi (.cond (.t 10) (.seq qbhn .ret) (.seq qbec (.cond (.t 17) (.seq qbhw .ret) .skip))))))) (.seq qbdf .ret)))
@[go_sem] def s0f : List (RV × Co) := [(.t 2, .id)]
theorem c0f : cFun Try.prog 89 = some (34, k0f, s0f) := by kernel_rfl

def qbcv : IC := zr [zi 2 (.alo [(.str []), (.int .i64 0), .nils])]
def q6o : IC := zr [zm 6 0, zi 7 (.call (.c (.fn 120 [] [])) [((.t 6), .id)]), zm 5 7, zv 8 (.ext (.t 5) 0), zv 9 (.ext (.t 5) 1), zi 3 (.alo [(.str []), (.int .i64 0), .nils]), zn (.st 3 (.agg [.id, .id, (.sl 3)]) (.t 3) (.t 8)), zm 4 9]
def q91 : IC := zr [zv 10 (.ld true 3 (.t 3)), zn (.st 3 (.agg [.id, .id, (.sl 3)]) (.t 2) (.t 10))]
def k0ba : IC := (.seq qbcv (.seq q6o (.seq q91 .ret)))
@[go_sem] def s0ba : List (RV × Co) := [(.c true 3 2, (.agg [.id, .id, (.sl 3)]))]
theorem c0ba : cFun Try.prog 90 = some (11, k0ba, s0ba) := by kernel_rfl

def qbb9 : IC := zr [zv 2 zf]
def q2q : IC := zr [zm 3 0, zm 4 0, zi 5 (.call (.c (.fn 92 [] [])) [((.t 3), (.sl 3)), ((.t 4), (.sl 3)), ((.c (.fn 121 [] [])), .id)]), zm 2 5]
def k0bi : IC := (.seq qbb9 (.seq q2q .ret))
@[go_sem] def s0bi : List (RV × Co) := [(.t 2, .id)]
theorem c0bi : cFun Try.prog 91 = some (6, k0bi, s0bi) := by kernel_rfl

def qbbp : IC := zr [zv 6 zf]
def q90 : IC := zr [zm 8 0, zv 9 (.len false (.t 8)), zm 10 1, zv 11 (.len false (.t 10)), zv 12 (.bin .neq .no (.t 9) (.t 11))]
def q18 : IC := zr [zv 6 zf]
def qbad : IC := zr [zm 13 0, zv 14 (.len false (.t 13)), zv 15 (.mov (zc 0))]
def q7p : IC := zr [zv 16 (.bin .lss .no (.t 15) (.t 14))]
def q56 : IC := zr [zm 17 15, zm 7 17]
def q2e : IC := .drw [zp (zm 18 2), zp (zm 19 0), zp (zm 20 7), zp (zv 21 (.iad 3 (.t 19) (.t 20))), zp (zv 22 (.ld true 3 (.t 21))), zp (zm 23 1), zp (zm 24 7), zp (zv 25 (.iad 3 (.t 23) (.t 24))), zp (zv 26 (.ld true 3 (.t 25))), (zi 27 (.call (.t 18) [((.t 22), (.agg [.id, .id, (.sl 3)])), ((.t 26), (.agg [.id, .id, (.sl 3)]))]), []), zp (zv 28 (.un .not (.t 27)))]
def qbax : IC := zr [zv 6 zf]
def qbcy : IC := zr [zv 29 (.bin .add .no (.t 15) (zc 1)), zm 15 29]
def q3k : IC := (.seq q7p (.seq (.cond (.t 16) .skip (.exit 0)) (.seq (.block 1 (.seq q56 (.seq q2e (.cond (.t 28) (.seq qbax .ret) .skip)))) qbcy)))
def qzb : IC := zr [zv 6 (.mov (.c (.bool true)))]
def k0bh : IC := (.seq qbbp (.seq (.seq q90 (.cond (.t 12) (.seq q18 .ret) .skip)) (.seq (.seq qbad (.block 0 (.loop q3k))) (.seq qzb .ret))))
@[go_sem] def s0bh : List (RV × Co) := [(.t 6, .id)]
theorem c0bh : cFun Try.prog 92 = some (30, k0bh, s0bh) := by kernel_rfl

def q22 : IC := zr [zi 3 (.box (.t 0)), zi 4 (.box (.t 1)), zv 5 zf]
def q1a : IC := zr [zv 6 (.ld false 1 (.t 2)), zv 7 (.ld true 3 (.t 3)), zv 8 (.ld true 3 (.t 4)), zi 9 (.call (.c (.fn 94 [] [])) [((.t 6), .id), ((.t 7), (.agg [.id, .id, (.sl 3)])), ((.t 8), (.agg [.id, .id, (.sl 3)]))]), zm 5 9]
def k0bk : IC := (.seq q22 (.seq q1a .ret))
@[go_sem] def s0bk : List (RV × Co) := [(.t 5, .id)]
theorem c0bk : cFun Try.prog 93 = some (10, k0bk, s0bk) := by kernel_rfl

def q8b : IC := zr [zi 3 (.box (.t 0)), zi 4 (.box (.t 1)), zi 5 (.box (.t 2)), zv 6 zf]
def qbah : IC := zr [zv 9 (.fad (.t 4) 0), zv 10 (.ld false 1 (.t 9)), zv 11 (.bin .eql .no (.t 10) (.c (.str [])))]
def q52 : IC := zr [zv 13 (.ld false 1 (.t 3)), zv 14 (.fad (.t 4) 1), zv 15 (.ld false 1 (.t 14)), zi 16 (.call (.c (.fn 37 [] [])) [((.t 13), .id), ((.t 15), .id)]), zm 12 16, zv 17 (.ext (.t 12) 0), zv 18 (.ext (.t 12) 1), zi 7 (.alo [(.str []), (.int .i64 0), .nils]), zn (.st 3 (.agg [.id, .id, (.sl 3)]) (.t 7) (.t 17)), zm 8 18]
def q7h : IC := zr [zm 19 8]
def q5p : IC := zr [zv 20 (.ld true 3 (.t 7)), zv 21 (.ld true 3 (.t 5)), zi 22 (.call (.c (.fn 76 [] [])) [((.t 20), (.agg [.id, .id, (.sl 3)])), ((.t 21), (.agg [.id, .id, (.sl 3)]))]), zm 6 22]
def q4f : IC := zr [zv 23 (.ld false 1 (.t 3)), zv 24 (.fad (.t 4) 1), zv 25 (.ld false 1 (.t 24)), zv 26 (.ld true 3 (.t 5)), zi 27 (.call (.c (.fn 45 [] [])) [((.t 23), .id), ((.t 25), .id), ((.t 26), (.agg [.id, .id, (.sl 3)]))]), zv 28 (.bin .eql .no (.t 27) (zc 0)), zm 6 28]
def q5l : IC := zr [zv 29 (.fad (.t 4) 0), zv 30 (.ld false 1 (.t 29)), zv 31 (.fad (.t 5) 0), zv 32 (.ld false 1 (.t 31)), zv 33 (.bin .eql .no (.t 30) (.t 32)), zm 34 33, zw 34 true 35 (.fad (.t 4) 2), zw 34 true 36 (.ld false 1 (.t 35)), zw 34 true 37 (.fad (.t 5) 2), zw 34 true 38 (.ld false 1 (.t 37)), zw 34 true 39 (.mfn 122 [] [(.t 3)]), ⟨some (34, true), some 40, .call (.c (.fn 92 [] [])) [((.t 36), (.sl 3)), ((.t 38), (.sl 3)), ((.t 39), .id)]⟩, zv 41 (.pick (.t 34) (.t 40) (.c (.bool false))), zm 6 41]
def k0bl : IC := (.seq q8b (.seq (.seq qbah (.cond (.t 11) (.seq q52 (.seq (.seq q7h (.cond (.t 19) (.seq q5p .ret) .skip)) (.seq q4f .ret))) .skip)) (.seq q5l .ret)))
@[go_sem] def s0bl : List (RV × Co) := [(.t 6, .id)]
theorem c0bl : cFun Try.prog 94 = some (42, k0bl, s0bl) := by kernel_rfl

def q9p : IC := zr [zv 2 zf]
def q6s : IC := zr [zv 3 (.mov (zc 0))]
def qbcf : IC := zr [zm 4 3, zm 5 0, zv 6 (.len false (.t 5)), zv 7 (.bin .lss .no (.t 4) (.t 6))]
def q9x : IC := zr [zm 10 0, zm 11 3, zv 12 (.iad 3 (.t 10) (.t 11)), zv 13 (.ld true 3 (.t 12)), zi 14 (.call (.c (.fn 79 [] [])) [((.t 13), (.agg [.id, .id, (.sl 3)]))]), zv 15 (.un .not (.t 14))]
def q6g : IC := zr [zv 2 zf]
def q1v : IC := zr [zm 8 3, zv 9 (.bin .add .no (.t 8) (zc 1)), zm 3 9]
def q8m : IC := (.seq (.seq qbcf (.cond (.t 7) .skip (.exit 0))) (.seq (.block 1 (.seq q9x (.cond (.t 15) (.seq q6g .ret) .skip))) q1v))
def q3h : IC := zr [zv 2 (.mov (.c (.bool true)))]
def k0ct : IC := (.seq q9p (.seq (.seq q6s (.block 0 (.loop q8m))) (.seq q3h .ret)))
@[go_sem] def s0ct : List (RV × Co) := [(.t 2, .id)]
theorem c0ct : cFun Try.prog 95 = some (16, k0ct, s0ct) := by kernel_rfl

def q2c : IC := zr [zi 4 (.box (.t 1)), zi 5 (.box (.t 2)), zv 6 (.mov (.c .nils)), zv 7 (.mov (zc 0))]
def q2g : IC := zr [zv 13 (.fad (.t 4) 0), zv 14 (.ld false 1 (.t 13)), zv 15 (.bin .eql .no (.t 14) (.c (.str [])))]
def qbaa : IC := zr [zm 17 0, zv 18 (.fad (.t 4) 1), zv 19 (.ld false 1 (.t 18)), zi 20 (.call (.c (.fn 38 [] [])) [((.t 17), (.sl 4)), ((.t 19), .id)]), zm 16 20, zv 21 (.ext (.t 16) 0), zv 22 (.ext (.t 16) 1), zi 8 (.alo [(.str []), (.int .i64 0), .nils]), zn (.st 3 (.agg [.id, .id, (.sl 3)]) (.t 8) (.t 21)), zm 9 22]
def q46 : IC := zr [zm 23 9]
def q4s : IC := zr [zv 24 (.ld true 3 (.t 8)), zv 25 (.ld true 3 (.t 5)), zi 26 (.call (.c (.fn 39 [] [])) [((.t 24), (.agg [.id, .id, (.sl 3)])), ((.t 25), (.agg [.id, .id, (.sl 3)]))]), zv 27 (.un .not (.t 26))]
def q5z : IC := zr [zv 6 (.mov (.c .nils)), zv 7 (.mov (zc 14))]
def q16 : IC := zr [zm 28 0, zm 6 28, zv 7 (.mov (zc 0))]
def qbcr : IC := zr [zm 29 0, zv 30 (.fad (.t 4) 1), zv 31 (.ld false 1 (.t 30)), zv 32 (.ld true 3 (.t 5)), zi 33 (.call (.c (.fn 44 [] [])) [((.t 29), (.sl 4)), ((.t 31), .id), ((.t 32), (.agg [.id, .id, (.sl 3)]))]), zv 34 (.ext (.t 33) 0), zv 35 (.ext (.t 33) 1), zm 6 34, zm 7 35]
def q2m : IC := zr [zv 36 (.fad (.t 4) 0), zv 37 (.ld false 1 (.t 36)), zv 38 (.fad (.t 5) 0), zv 39 (.ld false 1 (.t 38)), zv 40 (.bin .neq .no (.t 37) (.t 39)), zm 41 40, zw 41 false 42 (.fad (.t 4) 2), zw 41 false 43 (.ld false 1 (.t 42)), zw 41 false 44 (.len false (.t 43)), zw 41 false 45 (.fad (.t 5) 2), zw 41 false 46 (.ld false 1 (.t 45)), zw 41 false 47 (.len false (.t 46)), zw 41 false 48 (.bin .neq .no (.t 44) (.t 47)), zv 49 (.pick (.t 41) (.c (.bool true)) (.t 48))]
def q1x : IC := zr [zv 6 (.mov (.c .nils)), zv 7 (.mov (zc 14))]
def qzu : IC := zr [zv 10 (.mov (zc 0))]
def qvw : IC := zr [zm 50 10, zv 51 (.fad (.t 4) 2), zv 52 (.ld false 1 (.t 51)), zv 53 (.len false (.t 52)), zv 54 (.bin .lss .no (.t 50) (.t 53))]
def qzg : IC := .drw [zp (zm 58 0), zp (zv 59 (.fad (.t 4) 2)), zp (zv 60 (.ld false 1 (.t 59))), zp (zm 61 10), zp (zv 62 (.iad 3 (.t 60) (.t 61))), zp (zv 63 (.ld true 3 (.t 62))), zp (zv 64 (.fad (.t 5) 2)), zp (zv 65 (.ld false 1 (.t 64))), zp (zm 66 10), zp (zv 67 (.iad 3 (.t 65) (.t 66))), zp (zv 68 (.ld true 3 (.t 67))), (zi 69 (.call (.c (.fn 96 [] [])) [((.t 58), (.sl 4)), ((.t 63), (.agg [.id, .id, (.sl 3)])), ((.t 68), (.agg [.id, .id, (.sl 3)]))]), []), zp (zm 57 69), zp (zv 70 (.ext (.t 57) 0)), zp (zv 71 (.ext (.t 57) 1)), zp (zm 11 70), zp (zm 12 71)]
def qx6 : IC := zr [zm 72 12, zv 73 (.bin .neq .no (.t 72) (zc 0))]
def qvt : IC := zr [zm 74 12, zv 6 (.mov (.c .nils)), zm 7 74]
def qxf : IC := zr [zm 75 11, zm 0 75]
def qw4 : IC := zr [zm 55 10, zv 56 (.bin .add .no (.t 55) (zc 1)), zm 10 56]
def qx2 : IC := (.seq (.seq qvw (.cond (.t 54) .skip (.exit 0))) (.seq (.block 1 (.seq qzg (.seq (.seq qx6 (.cond (.t 73) (.seq qvt .ret) .skip)) qxf))) qw4))
def qxh : IC := zr [zm 76 0, zm 6 76, zv 7 (.mov (zc 0))]
def k0cs : IC := (.seq q2c (.seq (.seq q2g (.cond (.t 15) (.seq qbaa (.seq (.seq q46 (.cond (.t 23) (.seq (.seq q4s (.cond (.t 27) (.seq q5z .ret) .skip)) (.seq q16 .ret)) .skip)) (.seq qbcr .ret))) .skip)) (.seq (.seq q2m (.cond (.t 49) (.seq q1x .ret) .skip)) (.seq (.seq qzu (.block 0 (.loop qx2))) (.seq qxh .ret)))))
@[go_sem] def s0cs : List (RV × Co) := [(.t 6, (.sl 4)), (.t 7, .id)]
theorem c0cs : cFun Try.prog 96 = some (77, k0cs, s0cs) := by kernel_rfl

def qbgl : IC := zr [zv 2 zf]
def qbf8 : IC := zr [zm 3 0, zv 4 (.bin .geq .no (.t 3) (.c (.int .u8 65))), zm 5 4, zw 5 true 6 (.mov (.t 0)), zw 5 true 7 (.bin .leq .no (.t 6) (.c (.int .u8 90))), zv 8 (.pick (.t 5) (.t 7) (.c (.bool false))), zm 2 8]
def k0n : IC := (.seq qbgl (.seq qbf8 .ret))
@[go_sem] def s0n : List (RV × Co) := [(.t 2, .id)]
theorem c0n : cFun Try.prog 106 = some (9, k0n, s0n) := by kernel_rfl

def qbin : IC := zr [zv 2 zf]
def qbiw : IC := zr [zm 5 0, zv 6 (.len true (.t 5)), zv 7 (.mov (zc 0))]
def qbh7 : IC := zr [zv 8 (.bin .lss .no (.t 7) (.t 6))]
def qbjh : IC := zr [zm 9 7, zm 3 9]
def qbdl : IC := zr [zm 10 0, zm 11 3, zv 12 (.idx (.t 10) (.t 11)), zm 4 12]
def qbhx : IC := zr [zm 13 4, zi 14 (.call (.c (.fn 128 [] [])) [((.t 13), .id)]), zv 15 (.un .not (.t 14)), zm 16 15, zw 16 true 17 (.mov (.t 4)), ⟨some (16, true), some 18, .call (.c (.fn 106 [] [])) [((.t 17), .id)]⟩, zw 16 true 19 (.un .not (.t 18)), zv 20 (.pick (.t 16) (.t 19) (.c (.bool false))), zm 21 20, zw 21 true 22 (.mov (.t 4)), zw 21 true 23 (.bin .lss .no (.t 22) (.c (.int .u8 48))), zw 21 true 24 (.mov (.t 23)), zw 24 false 25 (.mov (.t 4)), zw 24 false 26 (.bin .gtr .no (.t 25) (.c (.int .u8 57))), zw 21 true 27 (.pick (.t 24) (.c (.bool true)) (.t 26)), zv 28 (.pick (.t 21) (.t 27) (.c (.bool false))), zm 29 28, zw 29 true 30 (.mov (.t 4)), zw 29 true 31 (.bin .neq .no (.t 30) (.c (.int .u8 39))), zv 32 (.pick (.t 29) (.t 31) (.c (.bool false)))]
def qbfn : IC := zr [zv 2 zf]
def qbdo : IC := zr [zv 33 (.bin .add .no (.t 7) (zc 1)), zm 7 33]
def qbfd : IC := (.seq qbh7 (.seq (.cond (.t 8) .skip (.exit 0)) (.seq (.block 1 (.seq qbjh (.seq qbdl (.seq qbhx (.cond (.t 32) (.seq qbfn .ret) .skip))))) qbdo)))
def q68 : IC := zr [zv 2 (.mov (.c (.bool true)))]
def k0r : IC := (.seq qbin (.seq (.seq qbiw (.block 0 (.loop qbfd))) (.seq q68 .ret)))
@[go_sem] def s0r : List (RV × Co) := [(.t 2, .id)]
theorem c0r : cFun Try.prog 107 = some (34, k0r, s0r) := by kernel_rfl

def q6q : IC := zr [zi 1 (.box (.t 0)), zv 2 (.mov (.c (.str [])))]
def q9n : IC := zr [zv 6 (.fad (.t 1) 0), zv 7 (.ld false 1 (.t 6)), zv 8 (.bin .eql .no (.t 7) (.c (.str [45, 62])))]
def q62 : IC := .drw [zp (zv 9 (.fad (.t 1) 2)), zp (zv 10 (.ld false 1 (.t 9))), zp (zv 11 (.iad 3 (.t 10) (zc 0))), zp (zv 12 (.ld true 3 (.t 11))), zp (zv 13 (.fad (.t 1) 2)), zp (zv 14 (.ld false 1 (.t 13))), zp (zv 15 (.iad 3 (.t 14) (zc 0))), zp (zv 16 (.fad (.t 15) 0)), zp (zv 17 (.ld false 1 (.t 16))), (zv 18 (.bin .eql .no (.t 17) (.c (.str [45, 62]))), []), (zi 19 (.call (.c (.fn 129 [] [])) [((.t 12), (.agg [.id, .id, (.sl 3)])), ((.t 18), .id)]), []), (zv 20 (.bin .add .no (.t 19) (.c (.str [32, 45, 62, 32]))), []), zp (zv 21 (.fad (.t 1) 2)), (zv 22 (.ld false 1 (.t 21)), [10]), zp (zv 23 (.iad 3 (.t 22) (zc 1))), (zv 24 (.ld true 3 (.t 23)), [10]), (zi 25 (.call (.c (.fn 109 [] [])) [((.t 24), (.agg [.id, .id, (.sl 3)]))]), []), zp (zv 26 (.bin .add .no (.t 20) (.t 25))), zp (zm 2 26)]
def q8n : IC := zr [zi 3 (.bld 125 5)]
def q0t : IC := zr [zv 27 (.ld true 3 (.t 1)), zi 28 (.call (.c (.fn 88 [] [])) [((.t 27), (.agg [.id, .id, (.sl 3)]))]), zi 29 (.call (.c (.fn 130 [] [])) [((.t 28), .id)]), zi 30 (.call (.c (.fn 102 [] [])) [((.t 3), (.agg [.id, (.sl 1)])), ((.t 29), .id)])]
def q0s : IC := zr [zv 31 (.fad (.t 1) 2), zv 32 (.ld false 1 (.t 31)), zv 33 (.len false (.t 32)), zv 34 (.mov (zc 0))]
def qba4 : IC := zr [zv 35 (.bin .lss .no (.t 34) (.t 33))]
def q8w : IC := zr [zv 36 (.iad 3 (.t 32) (.t 34)), zv 37 (.ld true 3 (.t 36)), zi 5 (.alo [(.str []), (.int .i64 0), .nils]), zn (.st 3 (.agg [.id, .id, (.sl 3)]) (.t 5) (.t 37))]
def qbcn : IC := zr [zv 38 (.ld true 3 (.t 5)), zv 39 (.fad (.t 5) 2), zv 40 (.ld false 1 (.t 39)), zv 41 (.len false (.t 40)), zv 42 (.bin .gtr .no (.t 41) (zc 0)), zi 43 (.call (.c (.fn 129 [] [])) [((.t 38), (.agg [.id, .id, (.sl 3)])), ((.t 42), .id)]), zv 44 (.bin .add .no (.c (.str [32])) (.t 43)), zi 45 (.call (.c (.fn 102 [] [])) [((.t 3), (.agg [.id, (.sl 1)])), ((.t 44), .id)])]
def qwc : IC := zr [zv 46 (.bin .add .no (.t 34) (zc 1)), zm 34 46]
def q01 : IC := (.seq qba4 (.seq (.cond (.t 35) .skip (.exit 0)) (.seq (.block 1 (.seq q8w qbcn)) qwc)))
def qv5 : IC := zr [zi 47 (.call (.c (.fn 103 [] [])) [((.t 3), (.agg [.id, (.sl 1)]))]), zm 2 47]
def k0bw : IC := (.seq q6q (.seq (.seq q9n (.cond (.t 8) (.seq q62 .ret) .skip)) (.seq q8n (.seq q0t (.seq (.seq q0s (.block 0 (.loop q01))) (.seq qv5 .ret))))))
@[go_sem] def s0bw : List (RV × Co) := [(.t 2, .id)]
theorem c0bw : cFun Try.prog 109 = some (48, k0bw, s0bw) := by kernel_rfl

def q98 : IC := zr [zi 1 (.box (.t 0)), zv 2 (.mov (zc 0))]
def q35 : IC := zr [zv 3 (.mov (zc 1))]
def q99 : IC := zr [zv 4 (.mov (zc 0))]
def q7n : IC := zr [zm 5 4, zv 6 (.fad (.t 1) 2), zv 7 (.ld false 1 (.t 6)), zv 8 (.len false (.t 7)), zv 9 (.bin .lss .no (.t 5) (.t 8))]
def qbb2 : IC := zr [zm 12 3, zv 13 (.fad (.t 1) 2), zv 14 (.ld false 1 (.t 13)), zm 15 4, zv 16 (.iad 3 (.t 14) (.t 15)), zv 17 (.ld true 3 (.t 16)), zi 18 (.call (.c (.fn 112 [] [])) [((.t 17), (.agg [.id, .id, (.sl 3)]))]), zv 19 (.bin .add .no (.t 12) (.t 18)), zm 3 19]
def q9c : IC := zr [zm 10 4, zv 11 (.bin .add .no (.t 10) (zc 1)), zm 4 11]
def q4l : IC := (.seq (.seq q7n (.cond (.t 9) .skip (.exit 0))) (.seq (.block 1 qbb2) q9c))
def q7r : IC := zr [zm 20 3, zm 2 20]
def k0ca : IC := (.seq q98 (.seq q35 (.seq (.seq q99 (.block 0 (.loop q4l))) (.seq q7r .ret))))
@[go_sem] def s0ca : List (RV × Co) := [(.t 2, .id)]
theorem c0ca : cFun Try.prog 112 = some (21, k0ca, s0ca) := by kernel_rfl

def q4e : IC := zr [zi 1 (.box (.t 0)), zv 2 (.mov (zc 0))]
def q76 : IC := zr [zv 3 (.mov (zc 0))]
def qbce : IC := zr [zv 4 (.mov (zc 0))]
def q7c : IC := zr [zm 5 4, zv 6 (.fad (.t 1) 2), zv 7 (.ld false 1 (.t 6)), zv 8 (.len false (.t 7)), zv 9 (.bin .lss .no (.t 5) (.t 8))]
def qbbq : IC := zr [zm 12 3, zv 13 (.fad (.t 1) 2), zv 14 (.ld false 1 (.t 13)), zm 15 4, zv 16 (.iad 3 (.t 14) (.t 15)), zv 17 (.ld true 3 (.t 16)), zi 18 (.call (.c (.fn 113 [] [])) [((.t 17), (.agg [.id, .id, (.sl 3)]))]), zv 19 (.mm true (.t 12) (.t 18)), zm 3 19]
def q0u : IC := zr [zm 10 4, zv 11 (.bin .add .no (.t 10) (zc 1)), zm 4 11]
def q1j : IC := (.seq (.seq q7c (.cond (.t 9) .skip (.exit 0))) (.seq (.block 1 qbbq) q0u))
def q5v : IC := zr [zm 20 3, zv 21 (.bin .add .no (.t 20) (zc 1)), zm 2 21]
def k0cb : IC := (.seq q4e (.seq q76 (.seq (.seq qbce (.block 0 (.loop q1j))) (.seq q5v .ret))))
@[go_sem] def s0cb : List (RV × Co) := [(.t 2, .id)]
theorem c0cb : cFun Try.prog 113 = some (22, k0cb, s0cb) := by kernel_rfl

def qbay : IC := zr [zi 1 (.box (.t 0)), zv 2 zf]
def q30 : IC := zr [zv 3 (.mov (zc 0))]
def q75 : IC := zr [zm 5 3, zv 6 (.fad (.t 1) 2), zv 7 (.ld false 1 (.t 6)), zv 8 (.len false (.t 7)), zv 9 (.bin .lss .no (.t 5) (.t 8))]
def qbbl : IC := zr [zv 12 (.fad (.t 1) 2), zv 13 (.ld false 1 (.t 12)), zm 14 3, zv 15 (.iad 3 (.t 13) (.t 14)), zv 16 (.ld true 3 (.t 15)), zi 17 (.call (.c (.fn 114 [] [])) [((.t 16), (.agg [.id, .id, (.sl 3)]))]), zv 18 (.un .not (.t 17))]
def q6y : IC := zr [zv 2 zf]
def qbbj : IC := zr [zm 10 3, zv 11 (.bin .add .no (.t 10) (zc 1)), zm 3 11]
def q04 : IC := (.seq (.seq q75 (.cond (.t 9) .skip (.exit 0))) (.seq (.block 1 (.seq qbbl (.cond (.t 18) (.seq q6y .ret) .skip))) qbbj))
def qbch : IC := zr [zv 19 (.fad (.t 1) 2), zv 20 (.ld false 1 (.t 19)), zv 21 (.len false (.t 20)), zm 4 21]
def qbcj : IC := zr [zv 23 (.fad (.t 1) 0), zv 24 (.ld false 1 (.t 23)), zv 25 (.bin .eql .no (.t 24) (.c (.str []))), zm 22 25]
def qwd : IC := zr [zm 26 4, zv 27 (.bin .eql .no (.t 26) (zc 0)), zm 2 27]
def qyd : IC := zr [zv 29 (.fad (.t 1) 0), zv 30 (.ld false 1 (.t 29)), zv 31 (.bin .eql .no (.t 30) (.c (.str [45, 62]))), zm 28 31]
def qzx : IC := zr [zm 32 4, zv 33 (.bin .eql .no (.t 32) (zc 2)), zm 34 33, zw 34 true 35 (.fad (.t 1) 1), zw 34 true 36 (.ld false 1 (.t 35)), zw 34 true 37 (.bin .eql .no (.t 36) (zc 0)), zv 38 (.pick (.t 34) (.t 37) (.c (.bool false))), zm 2 38]
def qwh : IC := zr [zv 40 (.fad (.t 1) 0), zv 41 (.ld false 1 (.t 40)), zi 42 (.call (.c (.fn 133 [] [])) [((.t 41), .id)]), zm 39 42]
def qxx : IC := zr [zm 43 4, zv 44 (.bin .eql .no (.t 43) (zc 0)), zm 45 44, zw 45 true 46 (.fad (.t 1) 1), zw 45 true 47 (.ld false 1 (.t 46)), zw 45 true 48 (.bin .eql .no (.t 47) (zc 0)), zv 49 (.pick (.t 45) (.t 48) (.c (.bool false))), zm 2 49]
def qzc : IC := zr [zv 50 (.fad (.t 1) 0), zv 51 (.ld false 1 (.t 50)), zi 52 (.call (.c (.fn 125 [] [])) [((.t 51), .id)]), zm 53 52, zw 53 true 54 (.fad (.t 1) 1), zw 53 true 55 (.ld false 1 (.t 54)), zw 53 true 56 (.bin .eql .no (.t 55) (zc 0)), zv 57 (.pick (.t 53) (.t 56) (.c (.bool false))), zm 2 57]
def k0cc : IC := (.seq qbay (.seq (.seq q30 (.block 0 (.loop q04))) (.seq qbch (.seq (.block 2 (.seq qbcj (.cond (.t 22) (.seq qwd .ret) (.seq qyd (.cond (.t 28) (.seq qzx .ret) (.seq qwh (.cond (.t 39) (.seq qxx .ret) .skip))))))) (.seq qzc .ret)))))
@[go_sem] def s0cc : List (RV × Co) := [(.t 2, .id)]
theorem c0cc : cFun Try.prog 114 = some (58, k0cc, s0cc) := by kernel_rfl

def qbae : IC := zr [zv 6 (.mov (zc 0)), zv 7 zf]
def q2j : IC := zr [zm 12 0, zv 13 (.len false (.t 12)), zm 8 13]
def q1s : IC := zr [zm 14 8, zv 9 (.mov (zc 0)), zm 10 14]
def qbb5 : IC := zr [zm 15 9, zm 16 10, zv 17 (.bin .lss .no (.t 15) (.t 16))]
def qbbo : IC := zr [zm 18 9, zm 19 10, zv 20 (.bin .add .no (.t 18) (.t 19)), zv 21 (.cvi .u64 (.t 20)), zv 22 (.bin .shr .no (.t 21) (.c (.int .u64 1))), zv 23 (.cvi .i64 (.t 22)), zm 11 23]
def q5m : IC := zr [zm 24 2, zm 25 0, zm 26 11, zv 27 (.iad 4 (.t 25) (.t 26)), zv 28 (.ld true 4 (.t 27)), zm 29 1, zi 30 (.call (.t 24) [((.t 28), (.agg [.id, .id, .id, (.sl 3)])), ((.t 29), .id)]), zv 31 (.bin .lss .no (.t 30) (zc 0))]
def q8c : IC := zr [zm 32 11, zv 33 (.bin .add .no (.t 32) (zc 1)), zm 9 33]
def q5c : IC := zr [zm 34 11, zm 10 34]
def qbb8 : IC := (.seq (.seq qbb5 (.cond (.t 17) .skip (.exit 0))) (.block 1 (.seq qbbo (.seq q5m (.cond (.t 31) q8c q5c)))))
def qz2 : IC := zr [zm 35 9, zm 36 9, zm 37 8, zv 38 (.bin .lss .no (.t 36) (.t 37)), zm 39 38, zw 39 true 40 (.mov (.t 2)), zw 39 true 41 (.mov (.t 0)), zw 39 true 42 (.mov (.t 9)), zw 39 true 43 (.iad 4 (.t 41) (.t 42)), zw 39 true 44 (.ld true 4 (.t 43)), zw 39 true 45 (.mov (.t 1)), ⟨some (39, true), some 46, .call (.t 40) [((.t 44), (.agg [.id, .id, .id, (.sl 3)])), ((.t 45), .id)]⟩, zw 39 true 47 (.bin .eql .no (.t 46) (zc 0)), zv 48 (.pick (.t 39) (.t 47) (.c (.bool false))), zm 6 35, zm 7 48]
def k0bo : IC := (.seq qbae (.seq q2j (.seq q1s (.seq (.block 0 (.loop qbb8)) (.seq qz2 .ret)))))
@[go_sem] def s0bo : List (RV × Co) := [(.t 6, .id), (.t 7, .id)]
theorem c0bo : cFun Try.prog 115 = some (49, k0bo, s0bo) := by kernel_rfl

def q3b : IC := zr [zi 2 (.box (.t 0)), zv 4 (.mov (zc 0))]
def q34 : IC := zr [zv 6 (.fad (.t 2) 0), zv 7 (.ld false 1 (.t 6)), zm 8 1, zv 9 (.bin .lss .no (.t 7) (.t 8)), zm 5 9]
def q73 : IC := zr [zv 4 (.mov (zc (-1)))]
def q5j : IC := zr [zv 11 (.fad (.t 2) 0), zv 12 (.ld false 1 (.t 11)), zm 13 1, zv 14 (.bin .gtr .no (.t 12) (.t 13)), zm 10 14]
def q4q : IC := zr [zv 4 (.mov (zc 1))]
def q57 : IC := zr [zv 4 (.mov (zc 0))]
def k0bq : IC := (.seq q3b (.seq (.block 0 (.seq q34 (.cond (.t 5) (.seq q73 .ret) (.seq q5j (.cond (.t 10) (.seq q4q .ret) .skip))))) (.seq q57 .ret)))
@[go_sem] def s0bq : List (RV × Co) := [(.t 4, .id)]
theorem c0bq : cFun Try.prog 116 = some (15, k0bq, s0bq) := by kernel_rfl

def qbe6 : IC := zr [zv 2 zf]
def qbg9 : IC := zr [zm 5 0, zi 6 (.call (.c (.fn 135 [] [])) [((.t 5), .id), ((.c (.str [33])), .id)]), zv 7 (.un .not (.t 6))]
def qbir : IC := zr [zv 2 zf]
def qbe7 : IC := zr [zm 9 0, zv 10 (.sls (.t 9) (some (zc 1)) none), zi 11 (.call (.c (.fn 136 [] [])) [((.t 10), .id)]), zm 8 11, zv 12 (.ext (.t 8) 0), zv 13 (.ext (.t 8) 1), zm 3 12, zm 4 13]
def qbdv : IC := .drw [zp (zm 14 4), zp (zv 15 (.bin .eql .no (.t 14) (zc 0))), zp (zm 16 15), zp (zw 16 true 17 (.mov (.t 3))), (⟨some (16, true), some 18, .call (.c (.fn 137 [] [])) [((.t 17), .id)]⟩, []), zp (zw 16 true 19 (.mov (.t 0))), zp (zw 16 true 20 (.sls (.t 19) (some (zc 1)) none)), zp (zw 16 true 21 (.bin .eql .no (.t 18) (.t 20))), zp (zv 22 (.pick (.t 16) (.t 21) (.c (.bool false)))), zp (zm 2 22)]
def k0d : IC := (.seq qbe6 (.seq (.seq qbg9 (.cond (.t 7) (.seq qbir .ret) .skip)) (.seq qbe7 (.seq qbdv .ret))))
@[go_sem] def s0d : List (RV × Co) := [(.t 2, .id)]
theorem c0d : cFun Try.prog 119 = some (23, k0d, s0d) := by kernel_rfl

def q6l : IC := zr [zi 2 (.alo [(.str []), (.int .i64 0), .nils]), zv 3 (.mov (zc 0))]
def q48 : IC := zr [zm 6 0, zv 7 (.bld [(.str []), (.int .i64 0), (.bool false)] [(0, 1, (.t 6))]), zi 8 (.box (.t 7)), zm 4 8]
def q17 : IC := zr [zm 9 4, zi 10 (.call (.c (.fn 138 [] [])) [((.t 9), .id)]), zi 5 (.alo [(.str []), (.int .i64 0), .nils]), zn (.st 3 (.agg [.id, .id, (.sl 3)]) (.t 5) (.t 10))]
def q7a : IC := zr [zm 11 4, zv 12 (.nck (.t 11)), zv 13 (.fad (.t 12) 2), zv 14 (.ld false 1 (.t 13)), zm 15 14, zw 15 false 16 (.mov (.t 4)), zw 15 false 17 (.nck (.t 16)), zw 15 false 18 (.fad (.t 17) 0), zw 15 false 19 (.ld false 1 (.t 18)), zw 15 false 20 (.bin .neq .no (.t 19) (.c (.str []))), zv 21 (.pick (.t 15) (.c (.bool true)) (.t 20)), zm 22 21, zw 22 false 23 (.ld true 3 (.t 5)), ⟨some (22, false), some 24, .call (.c (.fn 75 [] [])) [((.t 23), (.agg [.id, .id, (.sl 3)]))]⟩, zw 22 false 25 (.mov (.t 0)), zw 22 false 26 (.bin .neq .no (.t 24) (.t 25)), zv 27 (.pick (.t 22) (.c (.bool true)) (.t 26))]
def q8e : IC := zr [zv 28 (.bld [(.str []), (.int .i64 0), .nils] []), zn (.st 3 (.agg [.id, .id, (.sl 3)]) (.t 2) (.t 28)), zv 3 (.mov (zc 5))]
def q4g : IC := zr [zv 29 (.ld true 3 (.t 5)), zn (.st 3 (.agg [.id, .id, (.sl 3)]) (.t 2) (.t 29)), zv 3 (.mov (zc 0))]
def k0cy : IC := (.seq q6l (.seq q48 (.seq q17 (.seq (.seq q7a (.cond (.t 27) (.seq q8e .ret) .skip)) (.seq q4g .ret)))))
@[go_sem] def s0cy : List (RV × Co) := [(.c true 3 2, (.agg [.id, .id, (.sl 3)])), (.t 3, .id)]
theorem c0cy : cFun Try.prog 120 = some (30, k0cy, s0cy) := by kernel_rfl

def q0x : IC := zr [zi 2 (.box (.t 0)), zi 3 (.box (.t 1)), zv 4 zf]
def qba1 : IC := zr [zv 5 (.ld true 3 (.t 2)), zi 6 (.call (.c (.fn 48 [] [])) [((.t 5), (.agg [.id, .id, (.sl 3)]))]), zm 4 6]
def k0bg : IC := (.seq q0x (.seq qba1 .ret))
@[go_sem] def s0bg : List (RV × Co) := [(.t 4, .id)]
theorem c0bg : cFun Try.prog 121 = some (7, k0bg, s0bg) := by kernel_rfl

def q6v : IC := zr [zi 3 (.box (.t 0)), zi 4 (.box (.t 1)), zv 5 zf]
def q33 : IC := zr [zv 6 (.ld false 1 (.t 2)), zv 7 (.ld true 3 (.t 3)), zv 8 (.ld true 3 (.t 4)), zi 9 (.call (.c (.fn 94 [] [])) [((.t 6), .id), ((.t 7), (.agg [.id, .id, (.sl 3)])), ((.t 8), (.agg [.id, .id, (.sl 3)]))]), zm 5 9]
def k0bj : IC := (.seq q6v (.seq q33 .ret))
@[go_sem] def s0bj : List (RV × Co) := [(.t 5, .id)]
theorem c0bj : cFun Try.prog 122 = some (10, k0bj, s0bj) := by kernel_rfl

def qbeo : IC := zr [zv 2 zf]
def qbee : IC := zr [zm 3 0, zv 4 (.bin .neq .no (.t 3) (.c (.str []))), zm 5 4, zw 5 true 6 (.mov (.t 0)), zw 5 true 7 (.idx (.t 6) (zc 0)), ⟨some (5, true), some 8, .call (.c (.fn 141 [] [])) [((.t 7), .id)]⟩, zv 9 (.pick (.t 5) (.t 8) (.c (.bool false))), zm 10 9, zw 10 true 11 (.mov (.t 0)), ⟨some (10, true), some 12, .call (.c (.fn 142 [] [])) [((.t 11), .id)]⟩, zv 13 (.pick (.t 10) (.t 12) (.c (.bool false))), zm 2 13]
def k0u : IC := (.seq qbeo (.seq qbee .ret))
@[go_sem] def s0u : List (RV × Co) := [(.t 2, .id)]
theorem c0u : cFun Try.prog 125 = some (14, k0u, s0u) := by kernel_rfl

def qbfx : IC := zr [zv 2 (.mov (.c (.str [])))]
def qbfm : IC := zr [zm 5 0, zi 6 (.call (.c (.fn 143 [] [])) [((.t 5), .id)]), zm 3 6]
def qbfu : IC := zr [zv 4 (.mov (.c (.str [])))]
def qbiq : IC := zr [zm 7 3, zv 8 (.bin .gtr .no (.t 7) (.c (.int .u64 9)))]
def qbjp : IC := zr [zm 9 3, zv 10 (.bin .rem .no (.t 9) (.c (.int .u64 10))), zv 11 (.bin .add .no (.c (.int .u64 48)) (.t 10)), zv 12 (.cvi .u8 (.t 11)), zv 13 (.bsl 1 [((.t 12), .id)]), zv 14 (.cbs (.t 13)), zm 15 4, zv 16 (.bin .add .no (.t 14) (.t 15)), zm 4 16]
def qbg2 : IC := zr [zm 17 3, zv 18 (.bin .quo .no (.t 17) (.c (.int .u64 10))), zm 3 18]
def qbdw : IC := (.seq (.seq qbiq (.cond (.t 8) .skip (.exit 0))) (.block 1 (.seq qbjp qbg2)))
def qbgq : IC := zr [zm 19 3, zv 20 (.bin .add .no (.c (.int .u64 48)) (.t 19)), zv 21 (.cvi .u8 (.t 20)), zv 22 (.bsl 1 [((.t 21), .id)]), zv 23 (.cbs (.t 22)), zm 24 4, zv 25 (.bin .add .no (.t 23) (.t 24)), zm 4 25]
def qbjs : IC := zr [zm 26 0, zv 27 (.bin .lss .no (.t 26) (zc 0))]
def q9j : IC := zr [zm 28 4, zv 29 (.bin .add .no (.c (.str [45])) (.t 28)), zm 2 29]
def q4r : IC := zr [zm 30 4, zm 2 30]
def k0w : IC := (.seq qbfx (.seq qbfm (.seq qbfu (.seq (.block 0 (.loop qbdw)) (.seq qbgq (.seq (.seq qbjs (.cond (.t 27) (.seq q9j .ret) .skip)) (.seq q4r .ret)))))))
@[go_sem] def s0w : List (RV × Co) := [(.t 2, .id)]
theorem c0w : cFun Try.prog 127 = some (31, k0w, s0w) := by kernel_rfl

def qbiu : IC := zr [zv 2 zf]
def qbf3 : IC := zr [zm 3 0, zv 4 (.bin .geq .no (.t 3) (.c (.int .u8 97))), zm 5 4, zw 5 true 6 (.mov (.t 0)), zw 5 true 7 (.bin .leq .no (.t 6) (.c (.int .u8 122))), zv 8 (.pick (.t 5) (.t 7) (.c (.bool false))), zm 9 8, zw 9 false 10 (.mov (.t 0)), zw 9 false 11 (.bin .eql .no (.t 10) (.c (.int .u8 95))), zv 12 (.pick (.t 9) (.c (.bool true)) (.t 11)), zm 2 12]
def k0l : IC := (.seq qbiu (.seq qbf3 .ret))
@[go_sem] def s0l : List (RV × Co) := [(.t 2, .id)]
theorem c0l : cFun Try.prog 128 = some (13, k0l, s0l) := by kernel_rfl

def q4p : IC := zr [zi 2 (.box (.t 0)), zv 4 (.mov (.c (.str [])))]
def q24 : IC := zr [zm 5 1]
def q4v : IC := zr [zv 6 (.ld true 3 (.t 2)), zi 7 (.call (.c (.fn 109 [] [])) [((.t 6), (.agg [.id, .id, (.sl 3)]))]), zv 8 (.bin .add .no (.c (.str [40])) (.t 7)), zv 9 (.bin .add .no (.t 8) (.c (.str [41]))), zm 4 9]
def q0o : IC := zr [zv 10 (.ld true 3 (.t 2)), zi 11 (.call (.c (.fn 109 [] [])) [((.t 10), (.agg [.id, .id, (.sl 3)]))]), zm 4 11]
def k0bv : IC := (.seq q4p (.seq (.seq q24 (.cond (.t 5) (.seq q4v .ret) .skip)) (.seq q0o .ret)))
@[go_sem] def s0bv : List (RV × Co) := [(.t 4, .id)]
theorem c0bv : cFun Try.prog 129 = some (12, k0bv, s0bv) := by kernel_rfl

def q3m : IC := zr [zi 1 (.box (.t 0)), zv 2 (.mov (.c (.str [])))]
def q19 : IC := zr [zv 4 (.fad (.t 1) 0), zv 5 (.ld false 1 (.t 4)), zv 6 (.bin .neq .no (.t 5) (.c (.str []))), zm 3 6]
def q7m : IC := zr [zv 7 (.fad (.t 1) 0), zv 8 (.ld false 1 (.t 7)), zm 2 8]
def q55 : IC := zr [zv 10 (.fad (.t 1) 1), zv 11 (.ld false 1 (.t 10)), zv 12 (.bin .geq .no (.t 11) (zc 0)), zm 9 12]
def q3s : IC := zr [zv 13 (.fad (.t 1) 1), zv 14 (.ld false 1 (.t 13)), zi 15 (.call (.c (.fn 144 [] [])) [((.t 14), .id)]), zm 2 15]
def q5s : IC := zr [zv 16 (.fad (.t 1) 1), zv 17 (.ld false 1 (.t 16)), zv 18 (.bin .sub .no (zc (-1)) (.t 17)), zi 19 (.call (.c (.fn 137 [] [])) [((.t 18), .id)]), zv 20 (.bin .add .no (.c (.str [63])) (.t 19)), zm 2 20]
def k0bu : IC := (.seq q3m (.seq (.block 0 (.seq q19 (.cond (.t 3) (.seq q7m .ret) (.seq q55 (.cond (.t 9) (.seq q3s .ret) .skip))))) (.seq q5s .ret)))
@[go_sem] def s0bu : List (RV × Co) := [(.t 2, .id)]
theorem c0bu : cFun Try.prog 130 = some (21, k0bu, s0bu) := by kernel_rfl

def qbjk : IC := zr [zv 2 zf]
def qbhb : IC := zr [zm 5 0, zv 6 (.bin .eql .no (.t 5) (.c (.str []))), zm 7 6, zw 7 false 8 (.mov (.t 0)), zw 7 false 9 (.idx (.t 8) (zc 0)), zw 7 false 10 (.bin .neq .no (.t 9) (.c (.int .u8 33))), zv 11 (.pick (.t 7) (.c (.bool true)) (.t 10))]
def qbd1 : IC := zr [zv 2 zf]
def qbc6 : IC := zr [zm 13 0, zv 14 (.sls (.t 13) (some (zc 1)) none), zi 15 (.call (.c (.fn 145 [] [])) [((.t 14), .id)]), zm 12 15, zv 16 (.ext (.t 12) 0), zv 17 (.ext (.t 12) 1), zm 3 16, zm 4 17]
def qbdx : IC := .drw [zp (zm 18 4), zp (zv 19 (.bin .eql .no (.t 18) (zc 0))), zp (zm 20 19), zp (zw 20 true 21 (.mov (.t 3))), (⟨some (20, true), some 22, .call (.c (.fn 127 [] [])) [((.t 21), .id)]⟩, []), zp (zw 20 true 23 (.mov (.t 0))), zp (zw 20 true 24 (.sls (.t 23) (some (zc 1)) none)), zp (zw 20 true 25 (.bin .eql .no (.t 22) (.t 24))), zp (zv 26 (.pick (.t 20) (.t 25) (.c (.bool false)))), zp (zm 2 26)]
def k0e : IC := (.seq qbjk (.seq (.seq qbhb (.cond (.t 11) (.seq qbd1 .ret) .skip)) (.seq qbc6 (.seq qbdx .ret))))
@[go_sem] def s0e : List (RV × Co) := [(.t 2, .id)]
theorem c0e : cFun Try.prog 133 = some (27, k0e, s0e) := by kernel_rfl

def qbji : IC := zr [zv 4 zf]
def qbic : IC := zr [zm 5 0, zm 6 1, zi 7 (.call (.c (.fn 147 [] [])) [((.t 5), .id), ((.t 6), .id)]), zm 4 7]
def k0i : IC := (.seq qbji (.seq qbic .ret))
@[go_sem] def s0i : List (RV × Co) := [(.t 4, .id)]
theorem c0i : cFun Try.prog 135 = some (8, k0i, s0i) := by kernel_rfl

def qbeg : IC := zr [zv 2 (.mov (zc 0)), zv 3 (.mov (zc 0))]
def qbfw : IC := zr [zm 8 0, zv 9 (.len true (.t 8)), zv 10 (.mov (zc 0))]
def qbff : IC := zr [zv 11 (.bin .lss .no (.t 10) (.t 9))]
def qbg7 : IC := zr [zm 12 10, zm 4 12]
def qbg4 : IC := zr [zm 13 0, zm 14 4, zv 15 (.idx (.t 13) (.t 14)), zv 16 (.bin .lss .no (.t 15) (.c (.int .u8 48))), zm 17 16, zw 17 false 18 (.mov (.t 0)), zw 17 false 19 (.mov (.t 4)), zw 17 false 20 (.idx (.t 18) (.t 19)), zw 17 false 21 (.bin .gtr .no (.t 20) (.c (.int .u8 57))), zv 22 (.pick (.t 17) (.c (.bool true)) (.t 21))]
def qbdi : IC := zr [zv 2 (.mov (zc 0)), zv 3 (.mov (zc 5))]
def qbig : IC := zr [zv 23 (.bin .add .no (.t 10) (zc 1)), zm 10 23]
def qbft : IC := (.seq qbff (.seq (.cond (.t 11) .skip (.exit 0)) (.seq (.block 1 (.seq qbg7 (.seq qbg4 (.cond (.t 22) (.seq qbdi .ret) .skip)))) qbig)))
def qbjm : IC := zr [zm 24 0, zv 25 (.bin .eql .no (.t 24) (.c (.str [])))]
def q8s : IC := zr [zv 2 (.mov (zc 0)), zv 3 (.mov (zc 5))]
def q3z : IC := zr [zv 5 (.mov (zc 0)), zv 6 (.mov (zc 0))]
def qbcp : IC := zr [zm 26 0, zm 27 6, zv 28 (.idx (.t 26) (.t 27)), zv 29 (.bin .sub .no (.t 28) (.c (.int .u8 48))), zv 30 (.cvi .i64 (.t 29)), zm 7 30]
def q59 : IC := zr [zm 31 5, zm 32 7, zv 33 (.bin .sub .no (zc 9223372036854775807) (.t 32)), zv 34 (.bin .quo .no (.t 33) (zc 10)), zv 35 (.bin .gtr .no (.t 31) (.t 34))]
def q6a : IC := zr [zv 2 (.mov (zc 0)), zv 3 (.mov (zc 4))]
def qbaq : IC := zr [zm 36 5, zv 37 (.bin .mul .no (zc 10) (.t 36)), zm 38 7, zv 39 (.bin .add .no (.t 37) (.t 38)), zm 5 39]
def qbaj : IC := zr [zm 40 6, zv 41 (.bin .add .no (.t 40) (zc 1)), zm 6 41]
def q3g : IC := zr [zm 42 6, zm 43 0, zv 44 (.len true (.t 43)), zv 45 (.bin .lss .no (.t 42) (.t 44))]
def qbcl : IC := zr [zm 46 5, zm 2 46, zv 3 (.mov (zc 0))]
def k0k : IC := (.seq qbeg (.scope (.seq (.seq qbfw (.block 0 (.loop qbft))) (.seq (.seq qbjm (.cond (.t 25) (.seq q8s .ret) .skip)) (.seq q3z (.seq (.label 0) (.seq qbcp (.seq (.seq q59 (.cond (.t 35) (.seq q6a .ret) .skip)) (.seq qbaq (.seq (.seq qbaj (.seq q3g (.cond (.t 45) (.goto 0) .skip))) (.seq qbcl .ret)))))))))))
@[go_sem] def s0k : List (RV × Co) := [(.t 2, .id), (.t 3, .id)]
theorem c0k : cFun Try.prog 136 = some (47, k0k, s0k) := by kernel_rfl

def qbgv : IC := zr [zv 2 (.mov (.c (.str [])))]
def qbfb : IC := zr [zm 6 0, zv 7 (.cvi .u64 (.t 6)), zm 3 7]
def qbh4 : IC := zr [zm 8 0, zv 9 (.bin .lss .no (.t 8) (zc 0))]
def qbim : IC := zr [zm 10 3, zv 11 (.un .neg (.t 10)), zm 3 11]
def qbd6 : IC := zr [zi 4 (.alo [(.int .u8 0), (.int .u8 0), (.int .u8 0), (.int .u8 0), (.int .u8 0), (.int .u8 0), (.int .u8 0), (.int .u8 0), (.int .u8 0), (.int .u8 0), (.int .u8 0), (.int .u8 0), (.int .u8 0), (.int .u8 0), (.int .u8 0), (.int .u8 0), (.int .u8 0), (.int .u8 0), (.int .u8 0), (.int .u8 0)])]
def qbd7 : IC := zr [zv 5 (.mov (zc 20))]
def qbda : IC := zr [zm 12 5, zv 13 (.bin .sub .no (.t 12) (zc 1)), zm 5 13]
def qbdz : IC := zr [zm 14 5, zm 15 3, zv 16 (.bin .rem .no (.t 15) (.c (.int .u64 10))), zv 17 (.bin .add .no (.c (.int .u64 48)) (.t 16)), zv 18 (.cvi .u8 (.t 17)), zv 19 (.aad 1 20 (.t 4) (.t 14)), zn (.st 1 .id (.t 19) (.t 18))]
def qbew : IC := zr [zm 20 3, zv 21 (.bin .quo .no (.t 20) (.c (.int .u64 10))), zm 3 21]
def q3t : IC := zr [zm 22 3, zv 23 (.bin .eql .no (.t 22) (.c (.int .u64 0)))]
def qbid : IC := (.block 1 (.seq qbda (.seq qbdz (.seq qbew (.seq q3t (.cond (.t 23) (.exit 0) .skip))))))
def q11 : IC := zr [zm 24 0, zv 25 (.bin .lss .no (.t 24) (zc 0))]
def q4d : IC := zr [zm 26 5, zv 27 (.sla 20 (.t 4) (.t 26)), zv 28 (.cbs (.t 27)), zv 29 (.bin .add .no (.c (.str [45])) (.t 28)), zm 2 29]
def q2p : IC := zr [zm 30 5, zv 31 (.sla 20 (.t 4) (.t 30)), zv 32 (.cbs (.t 31)), zm 2 32]
def k0x : IC := (.seq qbgv (.seq qbfb (.seq (.seq qbh4 (.cond (.t 9) qbim .skip)) (.seq qbd6 (.seq qbd7 (.seq (.block 0 (.loop qbid)) (.seq (.seq q11 (.cond (.t 25) (.seq q4d .ret) .skip)) (.seq q2p .ret))))))))
@[go_sem] def s0x : List (RV × Co) := [(.t 2, .id)]
theorem c0x : cFun Try.prog 137 = some (33, k0x, s0x) := by kernel_rfl

def q8f : IC := zr [zi 1 (.box (.t 0)), zi 2 (.alo [(.str []), (.int .i64 0), .nils])]
def q2w : IC := zr [zv 4 (.ld false 1 (.t 1)), zv 5 (.nck (.t 4)), zv 6 (.fad (.t 5) 1), zv 7 (.ld false 1 (.t 6)), zv 8 (.bin .add .no (.t 7) (zc 1)), zv 9 (.nck (.t 4)), zv 10 (.fad (.t 9) 1), zn (.st 1 .id (.t 10) (.t 8))]
def qbc5 : IC := zr [zv 11 (.ld false 1 (.t 1)), zv 12 (.nck (.t 11)), zv 13 (.fad (.t 12) 1), zv 14 (.ld false 1 (.t 13)), zv 15 (.bin .gtr .no (.t 14) (zc 200))]
def qbb4 : IC := zr [zv 16 (.ld false 1 (.t 1)), zv 17 (.nck (.t 16)), zv 18 (.fad (.t 17) 2), zn (.st 1 .id (.t 18) (.c (.bool true)))]
def q4x : IC := .dfr [zv 19 (.mfn 148 [] [(.t 1)])] (.t 19)
def q1b : IC := zr [zv 20 (.ld false 1 (.t 1)), zv 21 (.nck (.t 20)), zv 22 (.fad (.t 21) 2), zv 23 (.ld false 1 (.t 22))]
def q7f : IC := zr [zv 24 (.bld [(.str []), (.int .i64 0), .nils] []), zn (.st 3 (.agg [.id, .id, (.sl 3)]) (.t 2) (.t 24))]
def q5q : IC := zr [zv 25 (.ld false 1 (.t 1)), zi 26 (.call (.c (.fn 149 [] [])) [((.t 25), .id)]), zi 3 (.alo [(.str []), (.int .i64 0), .nils]), zn (.st 3 (.agg [.id, .id, (.sl 3)]) (.t 3) (.t 26))]
def q2h : IC := zr [zv 27 (.ld false 1 (.t 1)), zv 28 (.nck (.t 27)), zv 29 (.fad (.t 28) 2), zv 30 (.ld false 1 (.t 29)), zv 31 (.un .not (.t 30)), zm 32 31, zw 32 true 33 (.ld false 1 (.t 1)), zw 32 true 34 (.nck (.t 33)), zw 32 true 35 (.fad (.t 34) 0), zw 32 true 36 (.ld false 1 (.t 35)), ⟨some (32, true), some 37, .call (.c (.fn 135 [] [])) [((.t 36), .id), ((.c (.str [32, 45, 62, 32])), .id)]⟩, zw 32 true 38 (.un .not (.t 37)), zv 39 (.pick (.t 32) (.t 38) (.c (.bool false))), zm 40 39, zw 40 true 41 (.ld false 1 (.t 1)), ⟨some (40, true), some 42, .call (.c (.fn 150 [] [])) [((.t 41), .id), ((.c (.str [32])), .id)]⟩, zv 43 (.pick (.t 40) (.t 42) (.c (.bool false)))]
def qyg : IC := .drw [zp (zv 44 (.fad (.t 3) 2)), zp (zv 45 (.ld false 1 (.t 44))), (zi 46 (.call (.c (.fn 151 [] [])) [((.t 45), (.sl 3))]), []), (zv 47 (.ld false 1 (.t 1)), [2]), (zi 48 (.call (.c (.fn 149 [] [])) [((.t 47), .id)]), []), (zv 49 (.bsl 3 [((.t 48), (.agg [.id, .id, (.sl 3)]))]), []), (zi 50 (.app 3 (.agg [(.str []), (.int .i64 0), .nils]) 48 (.sl 3) (.t 46) (.t 49)), []), zp (zv 51 (.fad (.t 3) 2)), (zn (.st 1 (.sl 3) (.t 51) (.t 50)), [])]
def qkb : IC := (.seq (.seq q2h (.cond (.t 43) .skip (.exit 0))) (.block 1 qyg))
def qy0 : IC := zr [zv 52 (.ld false 1 (.t 1)), zv 53 (.nck (.t 52)), zv 54 (.fad (.t 53) 2), zv 55 (.ld false 1 (.t 54)), zv 56 (.un .not (.t 55)), zm 57 56, zw 57 true 58 (.ld false 1 (.t 1)), ⟨some (57, true), some 59, .call (.c (.fn 150 [] [])) [((.t 58), .id), ((.c (.str [32, 45, 62, 32])), .id)]⟩, zv 60 (.pick (.t 57) (.t 59) (.c (.bool false)))]
def qwu : IC := .drw [zp (zv 61 (.ld true 3 (.t 3))), zp (zv 62 (.ld false 1 (.t 1))), (zi 63 (.call (.c (.fn 138 [] [])) [((.t 62), .id)]), [0]), (zv 64 (.bsl 3 [((.t 61), (.agg [.id, .id, (.sl 3)])), ((.t 63), (.agg [.id, .id, (.sl 3)]))]), []), (zv 65 (.bld [(.str []), (.int .i64 0), .nils] [(0, 1, (.c (.str [45, 62]))), (2, 1, (.t 64))]), []), (zn (.st 3 (.agg [.id, .id, (.sl 3)]) (.t 2) (.t 65)), [])]
def qze : IC := zr [zv 66 (.ld true 3 (.t 3)), zn (.st 3 (.agg [.id, .id, (.sl 3)]) (.t 2) (.t 66))]
def k0cx : IC := (.seq q8f (.seq (.seq q2w (.seq qbc5 (.cond (.t 15) qbb4 .skip))) (.seq q4x (.seq (.seq q1b (.cond (.t 23) (.seq q7f .ret) .skip)) (.seq q5q (.seq (.block 0 (.loop qkb)) (.seq (.seq qy0 (.cond (.t 60) (.seq qwu .ret) .skip)) (.seq qze .ret))))))))
@[go_sem] def s0cx : List (RV × Co) := [(.c true 3 2, (.agg [.id, .id, (.sl 3)]))]
theorem c0cx : cFun Try.prog 138 = some (67, k0cx, s0cx) := by kernel_rfl

def qbja : IC := zr [zv 2 zf]
def qbjj : IC := zr [zm 3 0, zv 4 (.bin .geq .no (.t 3) (.c (.int .u8 65))), zm 5 4, zw 5 true 6 (.mov (.t 0)), zw 5 true 7 (.bin .leq .no (.t 6) (.c (.int .u8 90))), zv 8 (.pick (.t 5) (.t 7) (.c (.bool false))), zm 2 8]
def k0o : IC := (.seq qbja (.seq qbjj .ret))
@[go_sem] def s0o : List (RV × Co) := [(.t 2, .id)]
theorem c0o : cFun Try.prog 141 = some (9, k0o, s0o) := by kernel_rfl

def qbgx : IC := zr [zv 2 zf]
def qbik : IC := zr [zv 3 (.mov (zc 1))]
def qbhu : IC := zr [zm 4 3, zm 5 0, zv 6 (.len true (.t 5)), zv 7 (.bin .lss .no (.t 4) (.t 6))]
def qbfh : IC := zr [zm 10 0, zm 11 3, zv 12 (.idx (.t 10) (.t 11)), zi 13 (.call (.c (.fn 152 [] [])) [((.t 12), .id)]), zv 14 (.un .not (.t 13))]
def qbel : IC := zr [zv 2 zf]
def qbfk : IC := zr [zm 8 3, zv 9 (.bin .add .no (.t 8) (zc 1)), zm 3 9]
def qbeq : IC := (.seq (.seq qbhu (.cond (.t 7) .skip (.exit 0))) (.seq (.block 1 (.seq qbfh (.cond (.t 14) (.seq qbel .ret) .skip))) qbfk))
def qbfc : IC := zr [zv 2 (.mov (.c (.bool true)))]
def k0s : IC := (.seq qbgx (.seq (.seq qbik (.block 0 (.loop qbeq))) (.seq qbfc .ret)))
@[go_sem] def s0s : List (RV × Co) := [(.t 2, .id)]
theorem c0s : cFun Try.prog 142 = some (15, k0s, s0s) := by kernel_rfl

def qbd5 : IC := zr [zv 2 (.mov (.c (.int .u64 0)))]
def qbh2 : IC := zr [zm 3 0, zv 4 (.bin .lss .no (.t 3) (zc 0))]
def qbet : IC := zr [zm 5 0, zv 6 (.cvi .u64 (.t 5)), zv 7 (.un .neg (.t 6)), zm 2 7]
def qbg8 : IC := zr [zm 8 0, zv 9 (.cvi .u64 (.t 8)), zm 2 9]
def k0v : IC := (.seq qbd5 (.seq (.seq qbh2 (.cond (.t 4) (.seq qbet .ret) .skip)) (.seq qbg8 .ret)))
@[go_sem] def s0v : List (RV × Co) := [(.t 2, .id)]
theorem c0v : cFun Try.prog 143 = some (10, k0v, s0v) := by kernel_rfl

def qbho : IC := zr [zv 2 (.mov (.c (.str [])))]
def qbdn : IC := zr [zm 4 0, zv 5 (.bin .lss .no (.t 4) (zc 0))]
def qbgt : IC := zr [zv 2 (.mov (.c (.str [])))]
def qbdy : IC := zr [zm 6 0, zv 7 (.bin .rem .no (.t 6) (zc 26)), zv 8 (.bin .add .no (zc 97) (.t 7)), zv 9 (.cvi .u8 (.t 8)), zv 10 (.bsl 1 [((.t 9), .id)]), zv 11 (.cbs (.t 10)), zm 3 11]
def qbju : IC := zr [zm 12 0, zv 13 (.bin .lss .no (.t 12) (zc 26))]
def qbit : IC := zr [zm 14 3, zm 2 14]
def qbfg : IC := zr [zm 15 3, zm 16 0, zv 17 (.bin .quo .no (.t 16) (zc 26)), zi 18 (.call (.c (.fn 137 [] [])) [((.t 17), .id)]), zv 19 (.bin .add .no (.t 15) (.t 18)), zm 2 19]
def k0y : IC := (.seq qbho (.seq (.seq qbdn (.cond (.t 5) (.seq qbgt .ret) .skip)) (.seq qbdy (.seq (.seq qbju (.cond (.t 13) (.seq qbit .ret) .skip)) (.seq qbfg .ret)))))
@[go_sem] def s0y : List (RV × Co) := [(.t 2, .id)]
theorem c0y : cFun Try.prog 144 = some (20, k0y, s0y) := by kernel_rfl

def qbe8 : IC := zr [zv 2 (.mov (zc 0)), zv 3 (.mov (zc 0))]
def qbf2 : IC := zr [zm 8 0, zv 9 (.bin .eql .no (.t 8) (.c (.str [])))]
def qbep : IC := zr [zv 2 (.mov (zc 0)), zv 3 (.mov (zc 5))]
def qbif : IC := zr [zv 4 (.mov (zc 0))]
def qbc8 : IC := zr [zm 10 4, zm 11 0, zv 12 (.len true (.t 11)), zv 13 (.bin .lss .no (.t 10) (.t 12))]
def qbhj : IC := zr [zm 16 0, zm 17 4, zv 18 (.idx (.t 16) (.t 17)), zv 19 (.bin .lss .no (.t 18) (.c (.int .u8 48))), zm 20 19, zw 20 false 21 (.mov (.t 0)), zw 20 false 22 (.mov (.t 4)), zw 20 false 23 (.idx (.t 21) (.t 22)), zw 20 false 24 (.bin .gtr .no (.t 23) (.c (.int .u8 57))), zv 25 (.pick (.t 20) (.c (.bool true)) (.t 24))]
def qbjx : IC := zr [zv 2 (.mov (zc 0)), zv 3 (.mov (zc 5))]
def qbhg : IC := zr [zm 14 4, zv 15 (.bin .add .no (.t 14) (zc 1)), zm 4 15]
def qbfa : IC := (.seq (.seq qbc8 (.cond (.t 13) .skip (.exit 0))) (.seq (.block 1 (.seq qbhj (.cond (.t 25) (.seq qbjx .ret) .skip))) qbhg))
def q9l : IC := zr [zv 5 (.mov (zc 0))]
def q2v : IC := zr [zv 6 (.mov (zc 0))]
def q87 : IC := zr [zm 26 6, zm 27 0, zv 28 (.len true (.t 27)), zv 29 (.bin .lss .no (.t 26) (.t 28))]
def qbbb : IC := zr [zm 32 0, zm 33 6, zv 34 (.idx (.t 32) (.t 33)), zv 35 (.bin .sub .no (.t 34) (.c (.int .u8 48))), zv 36 (.cvi .i64 (.t 35)), zm 7 36]
def q1q : IC := zr [zm 37 5, zm 38 7, zv 39 (.bin .sub .no (zc 9223372036854775807) (.t 38)), zv 40 (.bin .quo .no (.t 39) (zc 10)), zv 41 (.bin .gtr .no (.t 37) (.t 40))]
def q92 : IC := zr [zv 2 (.mov (zc 0)), zv 3 (.mov (zc 4))]
def q8k : IC := zr [zm 42 5, zv 43 (.bin .mul .no (zc 10) (.t 42)), zm 44 7, zv 45 (.bin .add .no (.t 43) (.t 44)), zm 5 45]
def q1g : IC := zr [zm 30 6, zv 31 (.bin .add .no (.t 30) (zc 1)), zm 6 31]
def q70 : IC := (.seq (.seq q87 (.cond (.t 29) .skip (.exit 2))) (.seq (.block 3 (.seq qbbb (.seq (.seq q1q (.cond (.t 41) (.seq q92 .ret) .skip)) q8k))) q1g))
def qbc4 : IC := zr [zm 46 5, zm 2 46, zv 3 (.mov (zc 0))]
def k0j : IC := (.seq qbe8 (.seq (.seq qbf2 (.cond (.t 9) (.seq qbep .ret) .skip)) (.seq (.seq qbif (.block 0 (.loop qbfa))) (.seq q9l (.seq (.seq q2v (.block 2 (.loop q70))) (.seq qbc4 .ret))))))
@[go_sem] def s0j : List (RV × Co) := [(.t 2, .id), (.t 3, .id)]
theorem c0j : cFun Try.prog 145 = some (47, k0j, s0j) := by kernel_rfl

def qbjy : IC := zr [zv 4 zf]
def qbi8 : IC := zr [zm 5 0, zv 6 (.len true (.t 5)), zm 7 1, zv 8 (.len true (.t 7)), zv 9 (.bin .geq .no (.t 6) (.t 8)), zm 10 9, zw 10 true 11 (.mov (.t 0)), zw 10 true 12 (.mov (.t 1)), zw 10 true 13 (.len true (.t 12)), zw 10 true 14 (.sls (.t 11) none (some (.t 13))), zw 10 true 15 (.mov (.t 1)), zw 10 true 16 (.bin .eql .no (.t 14) (.t 15)), zv 17 (.pick (.t 10) (.t 16) (.c (.bool false))), zm 4 17]
def k0h : IC := (.seq qbjy (.seq qbi8 .ret))
@[go_sem] def s0h : List (RV × Co) := [(.t 4, .id)]
theorem c0h : cFun Try.prog 147 = some (18, k0h, s0h) := by kernel_rfl

def q6h : IC := zr [zv 1 (.ld false 1 (.t 0)), zv 2 (.nck (.t 1)), zv 3 (.fad (.t 2) 1), zv 4 (.ld false 1 (.t 3)), zv 5 (.bin .sub .no (.t 4) (zc 1)), zv 6 (.nck (.t 1)), zv 7 (.fad (.t 6) 1), zn (.st 1 .id (.t 7) (.t 5))]
def k0cg : IC := q6h
@[go_sem] def s0cg : List (RV × Co) := []
theorem c0cg : cFun Try.prog 148 = some (8, k0cg, s0cg) := by kernel_rfl

def q3e : IC := zr [zi 2 (.alo [(.str []), (.int .i64 0), .nils])]
def qbak : IC := zr [zm 6 0, zi 7 (.call (.c (.fn 150 [] [])) [((.t 6), .id), ((.c (.str [40])), .id)])]
def q4i : IC := zr [zm 8 0, zi 9 (.call (.c (.fn 138 [] [])) [((.t 8), .id)]), zi 3 (.alo [(.str []), (.int .i64 0), .nils]), zn (.st 3 (.agg [.id, .id, (.sl 3)]) (.t 3) (.t 9))]
def q7j : IC := zr [zm 10 0, zm 11 0, zv 12 (.nck (.t 11)), zv 13 (.fad (.t 12) 2), zv 14 (.ld false 1 (.t 13)), zm 15 14, zw 15 false 16 (.mov (.t 0)), ⟨some (15, false), some 17, .call (.c (.fn 150 [] [])) [((.t 16), .id), ((.c (.str [41])), .id)]⟩, zw 15 false 18 (.un .not (.t 17)), zv 19 (.pick (.t 15) (.c (.bool true)) (.t 18)), zv 20 (.nck (.t 10)), zv 21 (.fad (.t 20) 2), zn (.st 1 .id (.t 21) (.t 19))]
def q7o : IC := zr [zv 22 (.ld true 3 (.t 3)), zn (.st 3 (.agg [.id, .id, (.sl 3)]) (.t 2) (.t 22))]
def q95 : IC := zr [zm 23 0, zv 24 (.nck (.t 23)), zv 25 (.fad (.t 24) 0), zv 26 (.ld false 1 (.t 25)), zi 27 (.call (.c (.fn 153 [] [])) [((.t 26), .id), ((.c (.str [32, 40, 41])), .id)]), zm 4 27]
def q4n : IC := zr [zm 28 4, zv 29 (.bin .lss .no (.t 28) (zc 0))]
def q6p : IC := zr [zm 30 0, zv 31 (.nck (.t 30)), zv 32 (.fad (.t 31) 0), zv 33 (.ld false 1 (.t 32)), zv 34 (.len true (.t 33)), zm 4 34]
def q3p : IC := zr [zm 35 0, zv 36 (.nck (.t 35)), zv 37 (.fad (.t 36) 0), zv 38 (.ld false 1 (.t 37)), zm 39 4, zv 40 (.sls (.t 38) none (some (.t 39))), zi 41 (.call (.c (.fn 154 [] [])) [((.t 40), .id)]), zi 5 (.alo [(.str []), (.int .i64 0), .nils]), zn (.st 3 (.agg [.id, .id, (.sl 3)]) (.t 5) (.t 41))]
def q6r : IC := .drw [zp (zm 42 0), zp (zm 43 0), zp (zm 44 0), zp (zv 45 (.nck (.t 44))), zp (zv 46 (.fad (.t 45) 0)), zp (zv 47 (.ld false 1 (.t 46))), zp (zm 48 4), zp (zv 49 (.sls (.t 47) (some (.t 48)) none)), zp (zm 50 0), zp (zv 51 (.nck (.t 50))), zp (zv 52 (.fad (.t 51) 2)), zp (zv 53 (.ld false 1 (.t 52))), zp (zm 54 53), zp (zw 54 false 55 (.mov (.t 4))), zp (zw 54 false 56 (.bin .eql .no (.t 55) (zc 0))), zp (zv 57 (.pick (.t 54) (.c (.bool true)) (.t 56))), zp (zv 58 (.nck (.t 42))), zp (zv 59 (.fad (.t 58) 0)), (zn (.st 1 .id (.t 59) (.t 49)), []), zp (zv 60 (.nck (.t 43))), zp (zv 61 (.fad (.t 60) 2)), (zn (.st 1 .id (.t 61) (.t 57)), [])]
def qvp : IC := zr [zv 62 (.ld true 3 (.t 5)), zn (.st 3 (.agg [.id, .id, (.sl 3)]) (.t 2) (.t 62))]
def k0ch : IC := (.seq q3e (.seq (.seq qbak (.cond (.t 7) (.seq q4i (.seq q7j (.seq q7o .ret))) .skip)) (.seq q95 (.seq (.seq q4n (.cond (.t 29) q6p .skip)) (.seq q3p (.seq q6r (.seq qvp .ret)))))))
@[go_sem] def s0ch : List (RV × Co) := [(.c true 3 2, (.agg [.id, .id, (.sl 3)]))]
theorem c0ch : cFun Try.prog 149 = some (63, k0ch, s0ch) := by kernel_rfl

def q8y : IC := zr [zv 4 zf]
def q49 : IC := zr [zm 6 0, zv 7 (.nck (.t 6)), zv 8 (.fad (.t 7) 0), zv 9 (.ld false 1 (.t 8)), zm 10 1, zi 11 (.call (.c (.fn 135 [] [])) [((.t 9), .id), ((.t 10), .id)]), zm 5 11]
def q1t : IC := zr [zm 12 5]
def q43 : IC := zr [zm 13 0, zm 14 0, zv 15 (.nck (.t 14)), zv 16 (.fad (.t 15) 0), zv 17 (.ld false 1 (.t 16)), zm 18 1, zv 19 (.len true (.t 18)), zv 20 (.sls (.t 17) (some (.t 19)) none), zv 21 (.nck (.t 13)), zv 22 (.fad (.t 21) 0), zn (.st 1 .id (.t 22) (.t 20))]
def qbbv : IC := zr [zm 23 5, zm 4 23]
def k0ck : IC := (.seq q8y (.seq q49 (.seq (.seq q1t (.cond (.t 12) q43 .skip)) (.seq qbbv .ret))))
@[go_sem] def s0ck : List (RV × Co) := [(.t 4, .id)]
theorem c0ck : cFun Try.prog 150 = some (24, k0ck, s0ck) := by kernel_rfl

def q0n : IC := zr [zv 2 (.mov (.c .nils))]
def q4y : IC := zr [zm 3 0, zv 4 (.bin .eql .slice (.t 3) (.c .nils))]
def q8h : IC := zr [zv 2 (.mov (.c .nils))]
def qbbd : IC := zr [zv 5 (.bsl 3 []), zm 6 0, zi 7 (.app 3 (.agg [(.str []), (.int .i64 0), .nils]) 48 (.sl 3) (.t 5) (.t 6)), zm 2 7]
def k0cj : IC := (.seq q0n (.seq (.seq q4y (.cond (.t 4) (.seq q8h .ret) .skip)) (.seq qbbd .ret)))
@[go_sem] def s0cj : List (RV × Co) := [(.t 2, (.sl 3))]
theorem c0cj : cFun Try.prog 151 = some (8, k0cj, s0cj) := by kernel_rfl

def qbed : IC := zr [zv 2 zf]
def qbeu : IC := zr [zm 3 0, zi 4 (.call (.c (.fn 155 [] [])) [((.t 3), .id)]), zm 5 4, zw 5 false 6 (.mov (.t 0)), ⟨some (5, false), some 7, .call (.c (.fn 141 [] [])) [((.t 6), .id)]⟩, zv 8 (.pick (.t 5) (.c (.bool true)) (.t 7)), zm 9 8, zw 9 false 10 (.mov (.t 0)), ⟨some (9, false), some 11, .call (.c (.fn 156 [] [])) [((.t 10), .id)]⟩, zv 12 (.pick (.t 9) (.c (.bool true)) (.t 11)), zm 13 12, zw 13 false 14 (.mov (.t 0)), zw 13 false 15 (.bin .eql .no (.t 14) (.c (.int .u8 39))), zv 16 (.pick (.t 13) (.c (.bool true)) (.t 15)), zm 2 16]
def k0q : IC := (.seq qbed (.seq qbeu .ret))
@[go_sem] def s0q : List (RV × Co) := [(.t 2, .id)]
theorem c0q : cFun Try.prog 152 = some (17, k0q, s0q) := by kernel_rfl

def qbb3 : IC := zr [zi 2 (.alo [(.str []), (.int .i64 0), .nils])]
def q2y : IC := zr [zm 6 0, zi 7 (.call (.c (.fn 161 [] [])) [((.t 6), .id)]), zm 3 7]
def q10 : IC := zr [zm 8 3, zv 9 (.bin .geq .no (.t 8) (zc 0))]
def q44 : IC := zr [zm 10 3, zv 11 (.bld [(.str []), (.int .i64 0), .nils] [(1, 1, (.t 10))]), zn (.st 3 (.agg [.id, .id, (.sl 3)]) (.t 2) (.t 11))]
def qbbi : IC := zr [zm 12 0, zi 13 (.call (.c (.fn 135 [] [])) [((.t 12), .id), ((.c (.str [63])), .id)])]
def qbas : IC := zr [zm 15 0, zv 16 (.sls (.t 15) (some (zc 1)) none), zi 17 (.call (.c (.fn 136 [] [])) [((.t 16), .id)]), zm 14 17, zv 18 (.ext (.t 14) 0), zv 19 (.ext (.t 14) 1), zm 4 18, zm 5 19]
def q25 : IC := zr [zm 20 5, zv 21 (.bin .eql .no (.t 20) (zc 0))]
def q83 : IC := zr [zm 22 4, zv 23 (.bin .sub .no (zc (-1)) (.t 22)), zv 24 (.bld [(.str []), (.int .i64 0), .nils] [(1, 1, (.t 23))]), zn (.st 3 (.agg [.id, .id, (.sl 3)]) (.t 2) (.t 24))]
def q6w : IC := zr [zm 25 0, zv 26 (.bld [(.str []), (.int .i64 0), .nils] [(0, 1, (.t 25))]), zn (.st 3 (.agg [.id, .id, (.sl 3)]) (.t 2) (.t 26))]
def k0ci : IC := (.seq qbb3 (.seq (.seq q2y (.seq q10 (.cond (.t 9) (.seq q44 .ret) .skip))) (.seq (.seq qbbi (.cond (.t 13) (.seq qbas (.seq q25 (.cond (.t 21) (.seq q83 .ret) .skip))) .skip)) (.seq q6w .ret))))
@[go_sem] def s0ci : List (RV × Co) := [(.c true 3 2, (.agg [.id, .id, (.sl 3)]))]
theorem c0ci : cFun Try.prog 154 = some (27, k0ci, s0ci) := by kernel_rfl

def qbgd : IC := zr [zv 2 zf]
def qbh5 : IC := zr [zm 3 0, zv 4 (.bin .geq .no (.t 3) (.c (.int .u8 97))), zm 5 4, zw 5 true 6 (.mov (.t 0)), zw 5 true 7 (.bin .leq .no (.t 6) (.c (.int .u8 122))), zv 8 (.pick (.t 5) (.t 7) (.c (.bool false))), zm 9 8, zw 9 false 10 (.mov (.t 0)), zw 9 false 11 (.bin .eql .no (.t 10) (.c (.int .u8 95))), zv 12 (.pick (.t 9) (.c (.bool true)) (.t 11)), zm 2 12]
def k0m : IC := (.seq qbgd (.seq qbh5 .ret))
@[go_sem] def s0m : List (RV × Co) := [(.t 2, .id)]
theorem c0m : cFun Try.prog 155 = some (13, k0m, s0m) := by kernel_rfl

def qbgo : IC := zr [zv 2 zf]
def qbf7 : IC := zr [zm 3 0, zv 4 (.bin .geq .no (.t 3) (.c (.int .u8 48))), zm 5 4, zw 5 true 6 (.mov (.t 0)), zw 5 true 7 (.bin .leq .no (.t 6) (.c (.int .u8 57))), zv 8 (.pick (.t 5) (.t 7) (.c (.bool false))), zm 2 8]
def k0p : IC := (.seq qbgo (.seq qbf7 .ret))
@[go_sem] def s0p : List (RV × Co) := [(.t 2, .id)]
theorem c0p : cFun Try.prog 156 = some (9, k0p, s0p) := by kernel_rfl

def q9q : IC := zr [zv 2 (.mov (zc 0))]
def q2b : IC := zr [zm 6 0, zv 7 (.bin .eql .no (.t 6) (.c (.str []))), zm 8 7, zw 8 false 9 (.mov (.t 0)), zw 8 false 10 (.idx (.t 9) (zc 0)), zw 8 false 11 (.bin .lss .no (.t 10) (.c (.int .u8 97))), zv 12 (.pick (.t 8) (.c (.bool true)) (.t 11)), zm 13 12, zw 13 false 14 (.mov (.t 0)), zw 13 false 15 (.idx (.t 14) (zc 0)), zw 13 false 16 (.bin .gtr .no (.t 15) (.c (.int .u8 122))), zv 17 (.pick (.t 13) (.c (.bool true)) (.t 16))]
def qbao : IC := zr [zv 2 (.mov (zc (-1)))]
def q3i : IC := zr [zm 18 0, zv 19 (.idx (.t 18) (zc 0)), zv 20 (.bin .sub .no (.t 19) (.c (.int .u8 97))), zv 21 (.cvi .i64 (.t 20)), zm 3 21]
def q5a : IC := zr [zm 22 0, zv 23 (.len true (.t 22)), zv 24 (.bin .gtr .no (.t 23) (zc 1))]
def q7w : IC := zr [zm 26 0, zv 27 (.sls (.t 26) (some (zc 1)) none), zi 28 (.call (.c (.fn 136 [] [])) [((.t 27), .id)]), zm 25 28, zv 29 (.ext (.t 25) 0), zv 30 (.ext (.t 25) 1), zm 4 29, zm 5 30]
def qba5 : IC := zr [zm 31 5, zv 32 (.bin .neq .no (.t 31) (zc 0)), zm 33 32, zw 33 false 34 (.mov (.t 4)), zw 33 false 35 (.bin .gtr .no (.t 34) (zc 177372539170284150)), zv 36 (.pick (.t 33) (.c (.bool true)) (.t 35))]
def qbc1 : IC := zr [zv 2 (.mov (zc (-1)))]
def q8o : IC := zr [zm 37 3, zm 38 4, zv 39 (.bin .mul .no (zc 26) (.t 38)), zv 40 (.bin .add .no (.t 37) (.t 39)), zm 3 40]
def q4c : IC := zr [zm 41 3, zv 42 (.bin .gtr .no (.t 41) (zc 4611686018427387904)), zm 43 42, zw 43 false 44 (.mov (.t 3)), ⟨some (43, false), some 45, .call (.c (.fn 144 [] [])) [((.t 44), .id)]⟩, zw 43 false 46 (.mov (.t 0)), zw 43 false 47 (.bin .neq .no (.t 45) (.t 46)), zv 48 (.pick (.t 43) (.c (.bool true)) (.t 47))]
def qwi : IC := zr [zv 2 (.mov (zc (-1)))]
def qv0 : IC := zr [zm 49 3, zm 2 49]
def k0cl : IC := (.seq q9q (.seq (.seq q2b (.cond (.t 17) (.seq qbao .ret) .skip)) (.seq q3i (.seq (.seq q5a (.cond (.t 24) (.seq q7w (.seq (.seq qba5 (.cond (.t 36) (.seq qbc1 .ret) .skip)) q8o)) .skip)) (.seq (.seq q4c (.cond (.t 48) (.seq qwi .ret) .skip)) (.seq qv0 .ret))))))
@[go_sem] def s0cl : List (RV × Co) := [(.t 2, .id)]
theorem c0cl : cFun Try.prog 161 = some (50, k0cl, s0cl) := by kernel_rfl

end Go.Proofs.Ytfpobiheiloamaa
