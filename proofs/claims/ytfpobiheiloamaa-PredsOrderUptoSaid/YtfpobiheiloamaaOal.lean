/- A text of this proof. -/
import Derived.Test.YtfpobiheiloamaaOaf
import Derived.Test.YtfpobiheiloamaaProg
/- The compiled code of the functions. -/
namespace Go.Proofs.Ytfpobiheiloamaa
open Go Go.V
@[reducible] def zm (d s : Nat) : GI := ⟨none, some d, .v (.mov (.t s))⟩
@[reducible] def zv (d : Nat) (x : IV) : GI := ⟨none, some d, .v x⟩
@[reducible] def zi (d : Nat) (i : I) : GI := ⟨none, some d, i⟩
@[reducible] def zn (i : I) : GI := ⟨none, none, i⟩
@[reducible] def zw (j : Nat) (b : Bool) (d : Nat) (x : IV) : GI := ⟨some (j, b), some d, .v x⟩
@[reducible] def zp (g : GI) : GI × List Nat := (g, [])
@[reducible] def zN : Co := .agg [.id, .id, .id, .id, (.sl 5)]
@[reducible] def zC : Co := .agg [(.sl 4), .id, .id, .id, .id, .id, .id, .id]
@[reducible] def zaN : I := .alo [(.int .i64 0), (.int .i64 0), (.int .i64 0), (.str []), .nils]
@[reducible] def zaC : I := .alo [.nils, (.int .i64 0), (.int .i64 0), (.int .i64 0), (.str []), (.int .i64 0), (.int .i64 0), (.int .i64 0)]
@[reducible] def zaT : I := .alo [(.int .i64 0), (.int .i64 0), (.int .i64 0), (.str [])]
@[reducible] def zZ : AV := .agg [(.int .i64 0), (.int .i64 0), (.int .i64 0), (.str []), .nils]
@[reducible] def zc (n : Int) : Opd := .c (.int .i64 n)
@[reducible] def zf : IV := .mov (.c (.bool false))
@[reducible] def zr (l : List GI) : IC := .reg false l
def q2d : IC := zr [zi 3 (.box (.t 0)), zi 4 (.box (.t 1)), zi 5 (.box (.t 2)), zv 6 zf]
def q0t : IC := zr [zv 10 (.ld true 4 (.t 3)), zv 11 (.ld true 4 (.t 4)), zv 12 (.ld true 4 (.t 5)), zv 13 (.bsl 4 [((.t 10), (.agg [.id, .id, .id, (.sl 3)])), ((.t 11), (.agg [.id, .id, .id, (.sl 3)])), ((.t 12), (.agg [.id, .id, .id, (.sl 3)]))]), zi 14 (.call (.c (.fn 15 [] [])) [((.t 13), (.sl 4))]), zv 15 (.bin .eql .no (.t 14) (zc 0)), zm 16 15, zw 16 false 17 (.ld true 4 (.t 3)), ⟨some (16, false), some 18, .call (.c (.fn 27 [] [])) [((.t 17), (.agg [.id, .id, .id, (.sl 3)]))]⟩, zw 16 false 19 (.un .not (.t 18)), zv 20 (.pick (.t 16) (.c (.bool true)) (.t 19)), zm 21 20, zw 21 false 22 (.ld true 4 (.t 4)), ⟨some (21, false), some 23, .call (.c (.fn 27 [] [])) [((.t 22), (.agg [.id, .id, .id, (.sl 3)]))]⟩, zw 21 false 24 (.un .not (.t 23)), zv 25 (.pick (.t 21) (.c (.bool true)) (.t 24)), zm 26 25, zw 26 false 27 (.ld true 4 (.t 5)), ⟨some (26, false), some 28, .call (.c (.fn 27 [] [])) [((.t 27), (.agg [.id, .id, .id, (.sl 3)]))]⟩, zw 26 false 29 (.un .not (.t 28)), zv 30 (.pick (.t 26) (.c (.bool true)) (.t 29))]
def q3v : IC := zr [zi 31 (.call (.c (.fn 16 [] [])) []), zm 6 31]
def q1c : IC := .drw [zp (zv 32 (.ld true 4 (.t 3))), zp (zv 33 (.ld true 4 (.t 4))), (zi 34 (.call (.c (.fn 28 [] [])) [((.t 32), (.agg [.id, .id, .id, (.sl 3)])), ((.t 33), (.agg [.id, .id, .id, (.sl 3)]))]), []), (zv 35 (.ld true 4 (.t 4)), [2]), (zv 36 (.ld true 4 (.t 5)), [2]), (zi 37 (.call (.c (.fn 28 [] [])) [((.t 35), (.agg [.id, .id, .id, (.sl 3)])), ((.t 36), (.agg [.id, .id, .id, (.sl 3)]))]), []), (zv 38 (.ld true 4 (.t 3)), [2, 5]), (zv 39 (.ld true 4 (.t 5)), [2, 5]), (zi 40 (.call (.c (.fn 28 [] [])) [((.t 38), (.agg [.id, .id, .id, (.sl 3)])), ((.t 39), (.agg [.id, .id, .id, (.sl 3)]))]), []), zp (zm 7 34), zp (zm 8 37), zp (zm 9 40)]
def q1v : IC := zr [zv 41 (.ld true 4 (.t 4)), zv 42 (.ld true 4 (.t 3)), zi 43 (.call (.c (.fn 28 [] [])) [((.t 41), (.agg [.id, .id, .id, (.sl 3)])), ((.t 42), (.agg [.id, .id, .id, (.sl 3)]))]), zm 44 7, zv 45 (.un .neg (.t 44)), zv 46 (.bin .eql .no (.t 43) (.t 45)), zm 47 46, zw 47 true 48 (.mov (.t 7)), zw 47 true 49 (.bin .eql .no (.t 48) (zc 0)), zw 47 true 50 (.ld true 4 (.t 3)), zw 47 true 51 (.ld true 4 (.t 4)), ⟨some (47, true), some 52, .call (.c (.fn 29 [] [])) [((.t 50), (.agg [.id, .id, .id, (.sl 3)])), ((.t 51), (.agg [.id, .id, .id, (.sl 3)]))]⟩, zw 47 true 53 (.bin .eql .bool (.t 49) (.t 52)), zv 54 (.pick (.t 47) (.t 53) (.c (.bool false))), zm 55 54, zw 55 true 56 (.mov (.t 7)), zw 55 true 57 (.bin .gtr .no (.t 56) (zc 0)), zw 55 true 58 (.mov (.t 57)), zw 58 false 59 (.mov (.t 8)), zw 58 false 60 (.bin .gtr .no (.t 59) (zc 0)), zw 55 true 61 (.pick (.t 58) (.c (.bool true)) (.t 60)), zw 55 true 62 (.mov (.t 61)), zw 62 false 63 (.mov (.t 9)), zw 62 false 64 (.bin .leq .no (.t 63) (zc 0)), zw 55 true 65 (.pick (.t 62) (.c (.bool true)) (.t 64)), zv 66 (.pick (.t 55) (.t 65) (.c (.bool false))), zm 67 66, zw 67 true 68 (.mov (.t 7)), zw 67 true 69 (.bin .lss .no (.t 68) (zc 0)), zw 67 true 70 (.mov (.t 69)), zw 70 false 71 (.mov (.t 8)), zw 70 false 72 (.bin .lss .no (.t 71) (zc 0)), zw 67 true 73 (.pick (.t 70) (.c (.bool true)) (.t 72)), zw 67 true 74 (.mov (.t 73)), zw 74 false 75 (.mov (.t 9)), zw 74 false 76 (.bin .geq .no (.t 75) (zc 0)), zw 67 true 77 (.pick (.t 74) (.c (.bool true)) (.t 76)), zv 78 (.pick (.t 67) (.t 77) (.c (.bool false))), zm 79 78, ⟨some (79, true), some 80, .call (.c (.fn 16 [] [])) []⟩, zv 81 (.pick (.t 79) (.t 80) (.c (.bool false))), zm 6 81]
def k0by : IC := (.seq q2d (.seq (.seq q0t (.cond (.t 30) (.seq q3v .ret) .skip)) (.seq q1c (.seq q1v .ret))))
@[go_sem] def s0by : List (RV × Co) := [(.t 6, .id)]
theorem c0by : cFun Try.prog 4 = some (82, k0by, s0by) := by kernel_rfl

def q0d : IC := zr [zv 2 (.mov (zc 0))]
def qw5 : IC := zr [zm 5 0, zv 6 (.len false (.t 5)), zv 7 (.bin .gtr .no (.t 6) (zc 30))]
def q2e : IC := zr [zv 2 (.mov (zc 0))]
def qyx : IC := zr [zv 3 (.mov (.c .nils))]
def qzu : IC := zr [zv 4 (.mov (zc 0))]
def q1o : IC := zr [zm 8 4, zm 9 0, zv 10 (.len false (.t 9)), zv 11 (.bin .lss .no (.t 8) (.t 10))]
def q1j : IC := zr [zm 14 3, zm 15 0, zm 16 4, zv 17 (.iad 4 (.t 15) (.t 16)), zv 18 (.fad (.t 17) 1), zv 19 (.ld true 3 (.t 18)), zv 20 (.bsl 3 [((.t 19), (.agg [.id, .id, (.sl 3)]))]), zi 21 (.app 3 (.agg [(.str []), (.int .i64 0), .nils]) 48 (.sl 3) (.t 14) (.t 20)), zm 3 21]
def qy5 : IC := zr [zm 12 4, zv 13 (.bin .add .no (.t 12) (zc 1)), zm 4 13]
def q08 : IC := (.seq (.seq q1o (.cond (.t 11) .skip (.exit 0))) (.seq (.block 1 q1j) qy5))
def qt3 : IC := zr [zm 22 3, zi 23 (.call (.c (.fn 31 [] [])) [((.t 22), (.sl 3))]), zm 2 23]
def k0bp : IC := (.seq q0d (.seq (.seq qw5 (.cond (.t 7) (.seq q2e .ret) .skip)) (.seq qyx (.seq (.seq qzu (.block 0 (.loop q08))) (.seq qt3 .ret)))))
@[go_sem] def s0bp : List (RV × Co) := [(.t 2, .id)]
theorem c0bp : cFun Try.prog 15 = some (24, k0bp, s0bp) := by kernel_rfl

def qx2 : IC := zr [zv 0 zf]
def qyz : IC := zr [zv 3 (.bld [(.str []), (.str []), (.int .i64 0), .nils] [(0, 1, (.c (.str [67])))]), zi 1 (.alo [(.str []), (.str []), (.int .i64 0), .nils]), zn (.st 4 (.agg [.id, .id, .id, (.sl 3)]) (.t 1) (.t 3))]
def q15 : IC := zr [zv 4 (.bld [(.str []), (.int .i64 0), .nils] [(1, 1, (zc 1))]), zv 5 (.bsl 3 [((.t 4), (.agg [.id, .id, (.sl 3)]))]), zv 6 (.bld [(.str []), (.int .i64 0), .nils] [(0, 1, (.c (.str [84]))), (2, 1, (.t 5))]), zv 7 (.bld [(.str []), (.str []), (.int .i64 0), .nils] [(0, 1, (.c (.str [68]))), (1, 3, (.t 6))]), zi 2 (.alo [(.str []), (.str []), (.int .i64 0), .nils]), zn (.st 4 (.agg [.id, .id, .id, (.sl 3)]) (.t 2) (.t 7))]
def qza : IC := zr [zv 8 (.ld true 4 (.t 1)), zv 9 (.ld true 4 (.t 2)), zv 10 (.bsl 4 [((.t 8), (.agg [.id, .id, .id, (.sl 3)])), ((.t 9), (.agg [.id, .id, .id, (.sl 3)]))]), zi 11 (.call (.c (.fn 25 [] [])) [((.t 10), (.sl 4))]), zv 12 (.bin .eql .no (.t 11) (.c (.str [40, 67, 32, 97, 44, 32, 68, 32, 40, 84, 32, 98, 41, 41]))), zm 13 12, zw 13 true 14 (.ld true 4 (.t 1)), zw 13 true 15 (.bsl 4 [((.t 14), (.agg [.id, .id, .id, (.sl 3)]))]), ⟨some (13, true), some 16, .call (.c (.fn 25 [] [])) [((.t 15), (.sl 4))]⟩, zw 13 true 17 (.bin .eql .no (.t 16) (.c (.str [67, 32, 97]))), zv 18 (.pick (.t 13) (.t 17) (.c (.bool false))), zm 19 18, ⟨some (19, true), some 20, .call (.c (.fn 25 [] [])) [((.c .nils), (.sl 4))]⟩, zw 19 true 21 (.bin .eql .no (.t 20) (.c (.str []))), zv 22 (.pick (.t 19) (.t 21) (.c (.bool false))), zm 23 22, zw 23 true 24 (.ld true 4 (.t 1)), zw 23 true 25 (.ld true 4 (.t 2)), ⟨some (23, true), some 26, .call (.c (.fn 28 [] [])) [((.t 24), (.agg [.id, .id, .id, (.sl 3)])), ((.t 25), (.agg [.id, .id, .id, (.sl 3)]))]⟩, zw 23 true 27 (.bin .eql .no (.t 26) (zc (-1))), zv 28 (.pick (.t 23) (.t 27) (.c (.bool false))), zm 29 28, zw 29 true 30 (.ld true 4 (.t 2)), zw 29 true 31 (.ld true 4 (.t 1)), ⟨some (29, true), some 32, .call (.c (.fn 28 [] [])) [((.t 30), (.agg [.id, .id, .id, (.sl 3)])), ((.t 31), (.agg [.id, .id, .id, (.sl 3)]))]⟩, zw 29 true 33 (.bin .eql .no (.t 32) (zc 1)), zv 34 (.pick (.t 29) (.t 33) (.c (.bool false))), zm 35 34, zw 35 true 36 (.ld true 4 (.t 1)), zw 35 true 37 (.ld true 4 (.t 1)), ⟨some (35, true), some 38, .call (.c (.fn 29 [] [])) [((.t 36), (.agg [.id, .id, .id, (.sl 3)])), ((.t 37), (.agg [.id, .id, .id, (.sl 3)]))]⟩, zv 39 (.pick (.t 35) (.t 38) (.c (.bool false))), zm 40 39, zw 40 true 41 (.ld true 4 (.t 1)), zw 40 true 42 (.bsl 4 [((.t 41), (.agg [.id, .id, .id, (.sl 3)]))]), zw 40 true 43 (.ld true 4 (.t 1)), ⟨some (40, true), some 44, .call (.c (.fn 20 [] [])) [((.t 42), (.sl 4)), ((.t 43), (.agg [.id, .id, .id, (.sl 3)]))]⟩, zv 45 (.pick (.t 40) (.t 44) (.c (.bool false))), zm 46 45, zw 46 true 47 (.ld true 4 (.t 1)), zw 46 true 48 (.bsl 4 [((.t 47), (.agg [.id, .id, .id, (.sl 3)]))]), zw 46 true 49 (.ld true 4 (.t 2)), ⟨some (46, true), some 50, .call (.c (.fn 20 [] [])) [((.t 48), (.sl 4)), ((.t 49), (.agg [.id, .id, .id, (.sl 3)]))]⟩, zw 46 true 51 (.un .not (.t 50)), zv 52 (.pick (.t 46) (.t 51) (.c (.bool false))), zm 53 52, zw 53 true 54 (.ld true 4 (.t 1)), zw 53 true 55 (.ld true 4 (.t 2)), zw 53 true 56 (.ld true 4 (.t 1)), zw 53 true 57 (.bsl 4 [((.t 54), (.agg [.id, .id, .id, (.sl 3)])), ((.t 55), (.agg [.id, .id, .id, (.sl 3)])), ((.t 56), (.agg [.id, .id, .id, (.sl 3)]))]), ⟨some (53, true), some 58, .call (.c (.fn 18 [] [])) [((.t 57), (.sl 4))]⟩, zw 53 true 59 (.len false (.t 58)), zw 53 true 60 (.bin .eql .no (.t 59) (zc 2)), zv 61 (.pick (.t 53) (.t 60) (.c (.bool false))), zm 62 61, zw 62 true 63 (.ld true 4 (.t 2)), zw 62 true 64 (.ld true 4 (.t 1)), zw 62 true 65 (.bsl 4 [((.t 63), (.agg [.id, .id, .id, (.sl 3)])), ((.t 64), (.agg [.id, .id, .id, (.sl 3)]))]), ⟨some (62, true), some 66, .call (.c (.fn 23 [] [])) [((.t 65), (.sl 4))]⟩, zw 62 true 67 (.bsl 1 [((zc 1), .id), ((zc 0), .id)]), ⟨some (62, true), some 68, .call (.c (.fn 22 [] [])) [((.t 66), (.sl 1)), ((.t 67), (.sl 1))]⟩, zv 69 (.pick (.t 62) (.t 68) (.c (.bool false))), zm 70 69, zw 70 true 71 (.ld true 4 (.t 1)), ⟨some (70, true), some 72, .call (.c (.fn 61 [] [])) [((.t 71), (.agg [.id, .id, .id, (.sl 3)]))]⟩, zv 73 (.pick (.t 70) (.t 72) (.c (.bool false))), zm 74 73, zw 74 true 75 (.ld true 4 (.t 2)), ⟨some (74, true), some 76, .call (.c (.fn 61 [] [])) [((.t 75), (.agg [.id, .id, .id, (.sl 3)]))]⟩, zw 74 true 77 (.un .not (.t 76)), zv 78 (.pick (.t 74) (.t 77) (.c (.bool false))), zm 79 78, zw 79 true 80 (.ld true 4 (.t 2)), ⟨some (79, true), some 81, .call (.c (.fn 27 [] [])) [((.t 80), (.agg [.id, .id, .id, (.sl 3)]))]⟩, zv 82 (.pick (.t 79) (.t 81) (.c (.bool false))), zm 83 82, zw 83 true 84 (.bld [(.str []), (.str []), (.int .i64 0), .nils] [(0, 1, (.c (.str [99])))]), ⟨some (83, true), some 85, .call (.c (.fn 27 [] [])) [((.t 84), (.agg [.id, .id, .id, (.sl 3)]))]⟩, zw 83 true 86 (.un .not (.t 85)), zv 87 (.pick (.t 83) (.t 86) (.c (.bool false))), zm 0 87]
def k0bz : IC := (.seq qx2 (.seq qyz (.seq q15 (.seq qza .ret))))
@[go_sem] def s0bz : List (RV × Co) := [(.t 0, .id)]
theorem c0bz : cFun Try.prog 16 = some (88, k0bz, s0bz) := by kernel_rfl

def qyq : IC := zr [zv 4 zf]
def q0i : IC := zr [zm 6 0, zv 7 (.len false (.t 6)), zm 8 1, zv 9 (.len false (.t 8)), zv 10 (.bin .neq .no (.t 7) (.t 9))]
def qxb : IC := zr [zv 4 zf]
def qze : IC := zr [zv 5 (.mov (zc 0))]
def qx9 : IC := zr [zm 11 5, zm 12 0, zv 13 (.len false (.t 12)), zv 14 (.bin .lss .no (.t 11) (.t 13))]
def q1e : IC := .drw [zp (zm 17 0), zp (zm 18 5), zp (zv 19 (.iad 4 (.t 17) (.t 18))), zp (zv 20 (.ld true 4 (.t 19))), zp (zm 21 1), zp (zm 22 5), zp (zv 23 (.iad 4 (.t 21) (.t 22))), zp (zv 24 (.ld true 4 (.t 23))), (zi 25 (.call (.c (.fn 62 [] [])) [((.t 20), (.agg [.id, .id, .id, (.sl 3)])), ((.t 24), (.agg [.id, .id, .id, (.sl 3)]))]), []), zp (zv 26 (.un .not (.t 25)))]
def qx0 : IC := zr [zv 4 zf]
def q2w : IC := zr [zm 15 5, zv 16 (.bin .add .no (.t 15) (zc 1)), zm 5 16]
def qxi : IC := (.seq (.seq qx9 (.cond (.t 14) .skip (.exit 0))) (.seq (.block 1 (.seq q1e (.cond (.t 26) (.seq qx0 .ret) .skip))) q2w))
def qsz : IC := zr [zv 4 (.mov (.c (.bool true)))]
def k0bm : IC := (.seq qyq (.seq (.seq q0i (.cond (.t 10) (.seq qxb .ret) .skip)) (.seq (.seq qze (.block 0 (.loop qxi))) (.seq qsz .ret))))
@[go_sem] def s0bm : List (RV × Co) := [(.t 4, .id)]
theorem c0bm : cFun Try.prog 17 = some (27, k0bm, s0bm) := by kernel_rfl

def qx1 : IC := zr [zv 2 (.mov (.c .nils))]
def q2x : IC := zr [zv 3 (.mov (.c .nils))]
def q0r : IC := zr [zm 6 0, zv 7 (.len false (.t 6)), zv 8 (.mov (zc 0))]
def qxe : IC := zr [zv 9 (.bin .lss .no (.t 8) (.t 7))]
def q1t : IC := zr [zv 10 (.iad 4 (.t 6) (.t 8)), zv 11 (.ld true 4 (.t 10)), zi 5 (.alo [(.str []), (.str []), (.int .i64 0), .nils]), zn (.st 4 (.agg [.id, .id, .id, (.sl 3)]) (.t 5) (.t 11))]
def q1f : IC := zr [zm 12 3, zv 13 (.ld true 4 (.t 5)), zi 14 (.call (.c (.fn 20 [] [])) [((.t 12), (.sl 4)), ((.t 13), (.agg [.id, .id, .id, (.sl 3)]))]), zv 15 (.un .not (.t 14))]
def qy9 : IC := .drw [zp (zm 16 3), zp (zm 17 3), zp (zv 18 (.len false (.t 17))), zp (zm 19 3), zp (zv 20 (.len false (.t 19))), zp (zv 21 (.slv 4 (.t 16) none (some (.t 18)) (some (.t 20)))), zp (zv 22 (.ld true 4 (.t 5))), (zv 23 (.bsl 4 [((.t 22), (.agg [.id, .id, .id, (.sl 3)]))]), []), (zi 24 (.app 4 (.agg [(.str []), (.str []), (.int .i64 0), .nils]) 64 (.sl 4) (.t 21) (.t 23)), []), zp (zm 3 24)]
def qzy : IC := zr [zv 25 (.bin .add .no (.t 8) (zc 1)), zm 8 25]
def q1d : IC := (.seq qxe (.seq (.cond (.t 9) .skip (.exit 0)) (.seq (.block 1 (.seq q1t (.seq q1f (.cond (.t 15) qy9 .skip)))) qzy)))
def qvr : IC := zr [zm 26 3, zm 2 26]
def k0bx : IC := (.seq qx1 (.seq q2x (.seq (.seq q0r (.block 0 (.loop q1d))) (.seq qvr .ret))))
@[go_sem] def s0bx : List (RV × Co) := [(.t 2, (.sl 4))]
theorem c0bx : cFun Try.prog 18 = some (27, k0bx, s0bx) := by kernel_rfl

def q2l : IC := zr [zi 3 (.box (.t 1)), zv 4 zf]
def q3e : IC := zr [zm 5 0, zv 6 (.mfn 64 [] [(.t 3)]), zi 7 (.call (.c (.fn 63 [] [])) [((.t 5), (.sl 4)), ((.t 6), .id)]), zm 4 7]
def k0bv : IC := (.seq q2l (.seq q3e .ret))
@[go_sem] def s0bv : List (RV × Co) := [(.t 4, .id)]
theorem c0bv : cFun Try.prog 20 = some (8, k0bv, s0bv) := by kernel_rfl

def q02 : IC := zr [zi 3 (.box (.t 1)), zv 4 zf]
def qwz : IC := zr [zv 5 (.mov (zc 0))]
def q2f : IC := zr [zm 6 5, zm 7 0, zv 8 (.len false (.t 7)), zv 9 (.bin .lss .no (.t 6) (.t 8))]
def qyt : IC := .drw [zp (zm 12 0), zp (zm 13 5), zp (zv 14 (.iad 4 (.t 12) (.t 13))), zp (zv 15 (.ld true 4 (.t 14))), zp (zv 16 (.ld true 4 (.t 3))), (zi 17 (.call (.c (.fn 62 [] [])) [((.t 15), (.agg [.id, .id, .id, (.sl 3)])), ((.t 16), (.agg [.id, .id, .id, (.sl 3)]))]), [])]
def q1w : IC := zr [zv 4 (.mov (.c (.bool true)))]
def q2b : IC := zr [zm 10 5, zv 11 (.bin .add .no (.t 10) (zc 1)), zm 5 11]
def qxq : IC := (.seq (.seq q2f (.cond (.t 9) .skip (.exit 0))) (.seq (.block 1 (.seq qyt (.cond (.t 17) (.seq q1w .ret) .skip))) q2b))
def q3w : IC := zr [zv 4 zf]
def k0bw : IC := (.seq q02 (.seq (.seq qwz (.block 0 (.loop qxq))) (.seq q3w .ret)))
@[go_sem] def s0bw : List (RV × Co) := [(.t 4, .id)]
theorem c0bw : cFun Try.prog 21 = some (18, k0bw, s0bw) := by kernel_rfl

def q5e : IC := zr [zv 4 zf]
def q8z : IC := zr [zm 6 0, zv 7 (.len false (.t 6)), zm 8 1, zv 9 (.len false (.t 8)), zv 10 (.bin .neq .no (.t 7) (.t 9))]
def q4w : IC := zr [zv 4 zf]
def q9u : IC := zr [zv 5 (.mov (zc 0))]
def q9k : IC := zr [zm 11 5, zm 12 0, zv 13 (.len false (.t 12)), zv 14 (.bin .lss .no (.t 11) (.t 13))]
def q52 : IC := .drw [zp (zm 17 0), zp (zm 18 5), zp (zv 19 (.iad 1 (.t 17) (.t 18))), zp (zv 20 (.ld false 1 (.t 19))), zp (zm 21 1), zp (zm 22 5), zp (zv 23 (.iad 1 (.t 21) (.t 22))), zp (zv 24 (.ld false 1 (.t 23))), zp (zv 25 (.bin .neq .no (.t 20) (.t 24)))]
def q6i : IC := zr [zv 4 zf]
def q91 : IC := zr [zm 15 5, zv 16 (.bin .add .no (.t 15) (zc 1)), zm 5 16]
def q6g : IC := (.seq (.seq q9k (.cond (.t 14) .skip (.exit 0))) (.seq (.block 1 (.seq q52 (.cond (.t 25) (.seq q6i .ret) .skip))) q91))
def qx7 : IC := zr [zv 4 (.mov (.c (.bool true)))]
def k0k : IC := (.seq q5e (.seq (.seq q8z (.cond (.t 10) (.seq q4w .ret) .skip)) (.seq (.seq q9u (.block 0 (.loop q6g))) (.seq qx7 .ret))))
@[go_sem] def s0k : List (RV × Co) := [(.t 4, .id)]
theorem c0k : cFun Try.prog 22 = some (26, k0k, s0k) := by kernel_rfl

def qxt : IC := zr [zv 2 (.mov (.c .nils))]
def q1h : IC := zr [zv 3 (.mov (.c .nils))]
def qx5 : IC := zr [zm 8 0, zv 9 (.len false (.t 8)), zv 10 (.mov (zc 0))]
def qzh : IC := zr [zv 11 (.bin .lss .no (.t 10) (.t 9))]
def qw0 : IC := zr [zv 12 (.iad 4 (.t 8) (.t 10)), zv 13 (.ld true 4 (.t 12)), zi 5 (.alo [(.str []), (.str []), (.int .i64 0), .nils]), zn (.st 4 (.agg [.id, .id, .id, (.sl 3)]) (.t 5) (.t 13))]
def q0p : IC := zr [zv 14 (.fad (.t 5) 1), zv 15 (.ld true 3 (.t 14)), zi 16 (.call (.c (.fn 65 [] [])) [((.t 15), (.agg [.id, .id, (.sl 3)]))]), zv 17 (.len false (.t 16)), zv 18 (.mov (zc 0))]
def qyf : IC := zr [zv 19 (.bin .lss .no (.t 18) (.t 17))]
def q0v : IC := zr [zv 20 (.iad 1 (.t 16) (.t 18)), zv 21 (.ld false 1 (.t 20)), zm 7 21]
def qvs : IC := zr [zm 22 3, zm 23 7, zi 24 (.call (.c (.fn 66 [] [])) [((.t 22), (.sl 1)), ((.t 23), .id)]), zv 25 (.un .not (.t 24))]
def qto : IC := zr [zm 26 3, zm 27 7, zv 28 (.bsl 1 [((.t 27), .id)]), zi 29 (.app 1 (.int .i64 0) 8 (.sl 1) (.t 26) (.t 28)), zm 3 29]
def qth : IC := zr [zv 30 (.bin .add .no (.t 18) (zc 1)), zm 18 30]
def qp0 : IC := (.seq qyf (.seq (.cond (.t 19) .skip (.exit 2)) (.seq (.block 3 (.seq q0v (.seq qvs (.cond (.t 25) qto .skip)))) qth)))
def qtj : IC := zr [zv 31 (.bin .add .no (.t 10) (zc 1)), zm 10 31]
def qy4 : IC := (.seq qzh (.seq (.cond (.t 11) .skip (.exit 0)) (.seq (.block 1 (.seq qw0 (.seq q0p (.block 2 (.loop qp0))))) qtj)))
def qv7 : IC := zr [zm 32 3, zm 2 32]
def k0bl : IC := (.seq qxt (.seq q1h (.seq (.seq qx5 (.block 0 (.loop qy4))) (.seq qv7 .ret))))
@[go_sem] def s0bl : List (RV × Co) := [(.t 2, (.sl 1))]
theorem c0bl : cFun Try.prog 23 = some (33, k0bl, s0bl) := by kernel_rfl

def q1q : IC := zr [zv 2 (.mov (.c (.str [])))]
def q1l : IC := zr [zv 3 (.mov (.c .nils))]
def qyi : IC := zr [zm 7 0, zv 8 (.len false (.t 7)), zv 9 (.mov (zc 0))]
def qzb : IC := zr [zv 10 (.bin .lss .no (.t 9) (.t 8))]
def qyy : IC := zr [zv 11 (.iad 4 (.t 7) (.t 9)), zv 12 (.ld true 4 (.t 11)), zi 5 (.alo [(.str []), (.str []), (.int .i64 0), .nils]), zn (.st 4 (.agg [.id, .id, .id, (.sl 3)]) (.t 5) (.t 12))]
def q19 : IC := zr [zv 13 (.ld true 4 (.t 5)), zi 14 (.call (.c (.fn 27 [] [])) [((.t 13), (.agg [.id, .id, .id, (.sl 3)]))]), zv 15 (.un .not (.t 14))]
def qyc : IC := zr [zv 2 (.mov (.c (.str [])))]
def q06 : IC := zr [zm 16 3, zv 17 (.ld true 4 (.t 5)), zi 18 (.call (.c (.fn 68 [] [])) [((.t 17), (.agg [.id, .id, .id, (.sl 3)]))]), zv 19 (.bsl 1 [((.t 18), .id)]), zi 20 (.app 1 (.str []) 16 (.sl 1) (.t 16) (.t 19)), zm 3 20]
def qxg : IC := zr [zv 21 (.bin .add .no (.t 9) (zc 1)), zm 9 21]
def qye : IC := (.seq qzb (.seq (.cond (.t 10) .skip (.exit 0)) (.seq (.block 1 (.seq qyy (.seq (.seq q19 (.cond (.t 15) (.seq qyc .ret) .skip)) q06))) qxg)))
def qv8 : IC := zr [zm 22 3, zi 23 (.call (.c (.fn 69 [] [])) [((.t 22), (.sl 1)), ((.c (.str [44, 32])), .id)]), zm 6 23]
def qud : IC := zr [zm 24 0, zv 25 (.len false (.t 24)), zv 26 (.bin .gtr .no (.t 25) (zc 1))]
def quk : IC := zr [zm 27 6, zv 28 (.bin .add .no (.c (.str [40])) (.t 27)), zv 29 (.bin .add .no (.t 28) (.c (.str [41]))), zm 2 29]
def qv9 : IC := zr [zm 30 6, zm 2 30]
def k0bg : IC := (.seq q1q (.seq q1l (.seq (.seq qyi (.block 0 (.loop qye))) (.seq qv8 (.seq (.seq qud (.cond (.t 26) (.seq quk .ret) .skip)) (.seq qv9 .ret))))))
@[go_sem] def s0bg : List (RV × Co) := [(.t 2, .id)]
theorem c0bg : cFun Try.prog 25 = some (31, k0bg, s0bg) := by kernel_rfl

def q3i : IC := zr [zi 1 (.box (.t 0)), zv 2 zf]
def q00 : IC := zr [zv 3 (.fad (.t 1) 0), zv 4 (.ld false 1 (.t 3)), zi 5 (.call (.c (.fn 72 [] [])) [((.t 4), .id)]), zm 6 5, zw 6 true 7 (.fad (.t 1) 1), zw 6 true 8 (.ld true 3 (.t 7)), ⟨some (6, true), some 9, .call (.c (.fn 48 [] [])) [((.t 8), (.agg [.id, .id, (.sl 3)]))]⟩, zv 10 (.pick (.t 6) (.t 9) (.c (.bool false))), zm 2 10]
def k0bo : IC := (.seq q3i (.seq q00 .ret))
@[go_sem] def s0bo : List (RV × Co) := [(.t 2, .id)]
theorem c0bo : cFun Try.prog 27 = some (11, k0bo, s0bo) := by kernel_rfl

def q1s : IC := zr [zi 2 (.box (.t 0)), zi 3 (.box (.t 1)), zv 4 (.mov (zc 0))]
def q0x : IC := .drw [zp (zv 5 (.fad (.t 2) 0)), zp (zv 6 (.ld false 1 (.t 5))), zp (zv 7 (.fad (.t 3) 0)), zp (zv 8 (.ld false 1 (.t 7))), (zi 9 (.call (.c (.fn 74 [] [])) [((.t 6), .id), ((.t 8), .id)]), []), zp (zv 10 (.fad (.t 2) 1)), (zv 11 (.ld true 3 (.t 10)), [4]), (zi 12 (.call (.c (.fn 75 [] [])) [((.t 11), (.agg [.id, .id, (.sl 3)]))]), []), zp (zv 13 (.fad (.t 3) 1)), (zv 14 (.ld true 3 (.t 13)), [4, 7]), (zi 15 (.call (.c (.fn 75 [] [])) [((.t 14), (.agg [.id, .id, (.sl 3)]))]), []), (zi 16 (.call (.c (.fn 74 [] [])) [((.t 12), .id), ((.t 15), .id)]), []), (zv 17 (.bsl 1 [((.t 9), .id), ((.t 16), .id)]), []), (zi 18 (.call (.c (.fn 73 [] [])) [((.t 17), (.sl 1))]), []), zp (zm 4 18)]
def k0bk : IC := (.seq q1s (.seq q0x .ret))
@[go_sem] def s0bk : List (RV × Co) := [(.t 4, .id)]
theorem c0bk : cFun Try.prog 28 = some (19, k0bk, s0bk) := by kernel_rfl

def qxv : IC := zr [zi 2 (.box (.t 0)), zi 3 (.box (.t 1)), zv 4 zf]
def qz2 : IC := zr [zv 5 (.fad (.t 2) 0), zv 6 (.ld false 1 (.t 5)), zv 7 (.fad (.t 3) 0), zv 8 (.ld false 1 (.t 7)), zv 9 (.bin .eql .no (.t 6) (.t 8)), zm 10 9, zw 10 true 11 (.fad (.t 2) 1), zw 10 true 12 (.ld true 3 (.t 11)), zw 10 true 13 (.fad (.t 3) 1), zw 10 true 14 (.ld true 3 (.t 13)), ⟨some (10, true), some 15, .call (.c (.fn 76 [] [])) [((.t 12), (.agg [.id, .id, (.sl 3)])), ((.t 14), (.agg [.id, .id, (.sl 3)]))]⟩, zv 16 (.pick (.t 10) (.t 15) (.c (.bool false))), zm 4 16]
def k0bq : IC := (.seq qxv (.seq qz2 .ret))
@[go_sem] def s0bq : List (RV × Co) := [(.t 4, .id)]
theorem c0bq : cFun Try.prog 29 = some (17, k0bq, s0bq) := by kernel_rfl

def q41 : IC := zr [zv 2 (.mov (zc 0))]
def q4k : IC := zr [zv 3 (.mov (zc 20000))]
def q76 : IC := zr [zv 4 (.mov (zc 0))]
def q7m : IC := zr [zm 5 4, zm 6 0, zv 7 (.len false (.t 6)), zv 8 (.bin .lss .no (.t 5) (.t 7))]
def q8u : IC := zr [zm 11 0, zm 12 4, zv 13 (.iad 3 (.t 11) (.t 12)), zv 14 (.ld true 3 (.t 13)), zm 15 3, zi 16 (.call (.c (.fn 77 [] [])) [((.t 14), (.agg [.id, .id, (.sl 3)])), ((.t 15), .id), ((zc 300), .id)]), zm 3 16]
def q84 : IC := zr [zm 9 4, zv 10 (.bin .add .no (.t 9) (zc 1)), zm 4 10]
def qbal : IC := (.seq (.seq q7m (.cond (.t 8) .skip (.exit 0))) (.seq (.block 1 q8u) q84))
def q92 : IC := zr [zm 17 3, zv 18 (.bin .lss .no (.t 17) (zc 0))]
def q5w : IC := zr [zv 2 (.mov (zc 0))]
def qy0 : IC := zr [zv 2 (.mov (zc 1))]
def k0h : IC := (.seq q41 (.seq q4k (.seq (.seq q76 (.block 0 (.loop qbal))) (.seq (.seq q92 (.cond (.t 18) (.seq q5w .ret) .skip)) (.seq qy0 .ret)))))
@[go_sem] def s0h : List (RV × Co) := [(.t 2, .id)]
theorem c0h : cFun Try.prog 31 = some (19, k0h, s0h) := by kernel_rfl

def q50 : IC := zr [zi 2 (.box (.t 0)), zi 3 (.box (.t 1)), zv 4 zf]
def q5o : IC := zr [zv 6 (.fad (.t 2) 0), zv 7 (.ld false 1 (.t 6)), zv 8 (.fad (.t 3) 0), zv 9 (.ld false 1 (.t 8)), zv 10 (.bin .neq .no (.t 7) (.t 9)), zm 11 10, zw 11 false 12 (.fad (.t 2) 1), zw 11 false 13 (.ld false 1 (.t 12)), zw 11 false 14 (.fad (.t 3) 1), zw 11 false 15 (.ld false 1 (.t 14)), zw 11 false 16 (.bin .neq .no (.t 13) (.t 15)), zv 17 (.pick (.t 11) (.c (.bool true)) (.t 16)), zm 18 17, zw 18 false 19 (.fad (.t 2) 2), zw 18 false 20 (.ld false 1 (.t 19)), zw 18 false 21 (.len false (.t 20)), zw 18 false 22 (.fad (.t 3) 2), zw 18 false 23 (.ld false 1 (.t 22)), zw 18 false 24 (.len false (.t 23)), zw 18 false 25 (.bin .neq .no (.t 21) (.t 24)), zv 26 (.pick (.t 18) (.c (.bool true)) (.t 25))]
def q72 : IC := zr [zv 4 zf]
def q9t : IC := zr [zv 5 (.mov (zc 0))]
def q4z : IC := zr [zm 27 5, zv 28 (.fad (.t 2) 2), zv 29 (.ld false 1 (.t 28)), zv 30 (.len false (.t 29)), zv 31 (.bin .lss .no (.t 27) (.t 30))]
def qbaq : IC := .drw [zp (zv 34 (.fad (.t 2) 2)), zp (zv 35 (.ld false 1 (.t 34))), zp (zm 36 5), zp (zv 37 (.iad 3 (.t 35) (.t 36))), zp (zv 38 (.ld true 3 (.t 37))), zp (zv 39 (.fad (.t 3) 2)), zp (zv 40 (.ld false 1 (.t 39))), zp (zm 41 5), zp (zv 42 (.iad 3 (.t 40) (.t 41))), zp (zv 43 (.ld true 3 (.t 42))), (zi 44 (.call (.c (.fn 39 [] [])) [((.t 38), (.agg [.id, .id, (.sl 3)])), ((.t 43), (.agg [.id, .id, (.sl 3)]))]), []), zp (zv 45 (.un .not (.t 44)))]
def q94 : IC := zr [zv 4 zf]
def q86 : IC := zr [zm 32 5, zv 33 (.bin .add .no (.t 32) (zc 1)), zm 5 33]
def q8w : IC := (.seq (.seq q4z (.cond (.t 31) .skip (.exit 0))) (.seq (.block 1 (.seq qbaq (.cond (.t 45) (.seq q94 .ret) .skip))) q86))
def q0q : IC := zr [zv 4 (.mov (.c (.bool true)))]
def k0p : IC := (.seq q50 (.seq (.seq q5o (.cond (.t 26) (.seq q72 .ret) .skip)) (.seq (.seq q9t (.block 0 (.loop q8w))) (.seq q0q .ret))))
@[go_sem] def s0p : List (RV × Co) := [(.t 4, .id)]
theorem c0p : cFun Try.prog 39 = some (46, k0p, s0p) := by kernel_rfl

def q6u : IC := zr [zi 1 (.box (.t 0)), zv 2 zf]
def q6r : IC := zr [zi 3 (.alo [(.int .i64 0)]), zn (.st 1 .id (.t 3) (zc 0))]
def q7v : IC := zr [zv 4 (.ld true 3 (.t 1)), zv 5 (.mfn 87 [] [(.t 3)]), zi 6 (.call (.c (.fn 86 [] [])) [((.t 4), (.agg [.id, .id, (.sl 3)])), ((zc 1), .id), ((.t 5), .id)]), zm 2 6]
def k0f : IC := (.seq q6u (.seq q6r (.seq q7v .ret)))
@[go_sem] def s0f : List (RV × Co) := [(.t 2, .id)]
theorem c0f : cFun Try.prog 48 = some (7, k0f, s0f) := by kernel_rfl

def q1i : IC := zr [zi 1 (.box (.t 0)), zv 2 zf]
def qw1 : IC := zr [zv 3 (.fad (.t 1) 1), zv 4 (.fad (.t 3) 0), zv 5 (.ld false 1 (.t 4)), zv 6 (.bin .eql .no (.t 5) (.c (.str []))), zm 2 6]
def k0bn : IC := (.seq q1i (.seq qw1 .ret))
@[go_sem] def s0bn : List (RV × Co) := [(.t 2, .id)]
theorem c0bn : cFun Try.prog 61 = some (7, k0bn, s0bn) := by kernel_rfl

def q1k : IC := zr [zi 2 (.box (.t 0)), zi 3 (.box (.t 1)), zv 4 zf]
def q3c : IC := zr [zv 5 (.fad (.t 2) 0), zv 6 (.ld false 1 (.t 5)), zv 7 (.fad (.t 3) 0), zv 8 (.ld false 1 (.t 7)), zv 9 (.bin .eql .no (.t 6) (.t 8)), zm 10 9, zw 10 true 11 (.fad (.t 2) 1), zw 10 true 12 (.ld true 3 (.t 11)), zw 10 true 13 (.fad (.t 3) 1), zw 10 true 14 (.ld true 3 (.t 13)), ⟨some (10, true), some 15, .call (.c (.fn 39 [] [])) [((.t 12), (.agg [.id, .id, (.sl 3)])), ((.t 14), (.agg [.id, .id, (.sl 3)]))]⟩, zv 16 (.pick (.t 10) (.t 15) (.c (.bool false))), zm 4 16]
def k0br : IC := (.seq q1k (.seq q3c .ret))
@[go_sem] def s0br : List (RV × Co) := [(.t 4, .id)]
theorem c0br : cFun Try.prog 62 = some (17, k0br, s0br) := by kernel_rfl

def q26 : IC := zr [zv 4 zf]
def q28 : IC := zr [zm 5 0, zm 6 1, zi 7 (.call (.c (.fn 98 [] [])) [((.t 5), (.sl 4)), ((.t 6), .id)]), zv 8 (.bin .geq .no (.t 7) (zc 0)), zm 4 8]
def k0bu : IC := (.seq q26 (.seq q28 .ret))
@[go_sem] def s0bu : List (RV × Co) := [(.t 4, .id)]
theorem c0bu : cFun Try.prog 63 = some (9, k0bu, s0bu) := by kernel_rfl

def qw9 : IC := zr [zi 2 (.box (.t 0)), zv 3 zf]
def qyh : IC := zr [zv 4 (.ld true 4 (.t 1)), zv 5 (.ld true 4 (.t 2)), zi 6 (.call (.c (.fn 29 [] [])) [((.t 4), (.agg [.id, .id, .id, (.sl 3)])), ((.t 5), (.agg [.id, .id, .id, (.sl 3)]))]), zm 3 6]
def k0bs : IC := (.seq qw9 (.seq qyh .ret))
@[go_sem] def s0bs : List (RV × Co) := [(.t 3, .id)]
theorem c0bs : cFun Try.prog 64 = some (7, k0bs, s0bs) := by kernel_rfl

def q34 : IC := zr [zi 1 (.box (.t 0)), zv 2 (.mov (.c .nils))]
def q4q : IC := zr [zi 3 (.alo [.nils])]
def q7y : IC := zr [zv 4 (.ld true 3 (.t 1)), zv 5 (.mfn 99 [] [(.t 3)]), zi 6 (.call (.c (.fn 86 [] [])) [((.t 4), (.agg [.id, .id, (.sl 3)])), ((zc 1), .id), ((.t 5), .id)])]
def q37 : IC := zr [zv 7 (.ld false 1 (.t 3)), zm 2 7]
def k0m : IC := (.seq q34 (.seq q4q (.seq q7y (.seq q37 .ret))))
@[go_sem] def s0m : List (RV × Co) := [(.t 2, (.sl 1))]
theorem c0m : cFun Try.prog 65 = some (8, k0m, s0m) := by kernel_rfl

def q4x : IC := zr [zv 4 zf]
def q6l : IC := zr [zm 5 0, zm 6 1, zi 7 (.call (.c (.fn 100 [] [])) [((.t 5), (.sl 1)), ((.t 6), .id)]), zv 8 (.bin .geq .no (.t 7) (zc 0)), zm 4 8]
def k0j : IC := (.seq q4x (.seq q6l .ret))
@[go_sem] def s0j : List (RV × Co) := [(.t 4, .id)]
theorem c0j : cFun Try.prog 66 = some (9, k0j, s0j) := by kernel_rfl

def q0z : IC := zr [zi 1 (.box (.t 0)), zv 2 (.mov (.c (.str [])))]
def q04 : IC := zr [zv 4 (.fad (.t 1) 1), zv 5 (.ld true 3 (.t 4)), zi 6 (.call (.c (.fn 75 [] [])) [((.t 5), (.agg [.id, .id, (.sl 3)]))]), zm 3 6]
def qya : IC := zr [zv 7 (.fad (.t 1) 1), zv 8 (.fad (.t 7) 2), zv 9 (.ld false 1 (.t 8)), zv 10 (.len false (.t 9)), zv 11 (.bin .gtr .no (.t 10) (zc 0))]
def qxf : IC := zr [zm 12 3, zv 13 (.bin .add .no (.c (.str [40])) (.t 12)), zv 14 (.bin .add .no (.t 13) (.c (.str [41]))), zm 3 14]
def qzt : IC := zr [zv 15 (.fad (.t 1) 0), zv 16 (.ld false 1 (.t 15)), zv 17 (.bin .add .no (.t 16) (.c (.str [32]))), zm 18 3, zv 19 (.bin .add .no (.t 17) (.t 18)), zm 2 19]
def k0bf : IC := (.seq q0z (.seq q04 (.seq (.seq qya (.cond (.t 11) qxf .skip)) (.seq qzt .ret))))
@[go_sem] def s0bf : List (RV × Co) := [(.t 2, .id)]
theorem c0bf : cFun Try.prog 68 = some (20, k0bf, s0bf) := by kernel_rfl

def q24 : IC := zr [zv 2 zf]
def q13 : IC := zr [zm 3 0, zv 4 (.bin .neq .no (.t 3) (.c (.str []))), zm 5 4, zw 5 true 6 (.mov (.t 0)), zw 5 true 7 (.idx (.t 6) (zc 0)), ⟨some (5, true), some 8, .call (.c (.fn 106 [] [])) [((.t 7), .id)]⟩, zv 9 (.pick (.t 5) (.t 8) (.c (.bool false))), zm 10 9, zw 10 true 11 (.mov (.t 0)), ⟨some (10, true), some 12, .call (.c (.fn 107 [] [])) [((.t 11), .id)]⟩, zv 13 (.pick (.t 10) (.t 12) (.c (.bool false))), zm 2 13]
def k0ba : IC := (.seq q24 (.seq q13 .ret))
@[go_sem] def s0ba : List (RV × Co) := [(.t 2, .id)]
theorem c0ba : cFun Try.prog 72 = some (14, k0ba, s0ba) := by kernel_rfl

def q25 : IC := zr [zv 2 (.mov (zc 0))]
def qym : IC := zr [zv 3 (.mov (zc 0))]
def qw3 : IC := zr [zm 6 0, zv 7 (.len false (.t 6)), zv 8 (.mov (zc 0))]
def q2v : IC := zr [zv 9 (.bin .lss .no (.t 8) (.t 7))]
def q2p : IC := zr [zv 10 (.iad 1 (.t 6) (.t 8)), zv 11 (.ld false 1 (.t 10)), zm 5 11]
def q3r : IC := zr [zm 12 5, zm 13 3, zv 14 (.bin .neq .no (.t 12) (.t 13))]
def q0n : IC := zr [zm 15 5, zm 2 15]
def qz3 : IC := zr [zv 16 (.bin .add .no (.t 8) (zc 1)), zm 8 16]
def q2j : IC := (.seq q2v (.seq (.cond (.t 9) .skip (.exit 0)) (.seq (.block 1 (.seq q2p (.seq q3r (.cond (.t 14) (.seq q0n .ret) .skip)))) qz3)))
def qtr : IC := zr [zm 17 3, zm 2 17]
def k0bj : IC := (.seq q25 (.seq qym (.seq (.seq qw3 (.block 0 (.loop q2j))) (.seq qtr .ret))))
@[go_sem] def s0bj : List (RV × Co) := [(.t 2, .id)]
theorem c0bj : cFun Try.prog 73 = some (18, k0bj, s0bj) := by kernel_rfl

def q3d : IC := zr [zv 4 (.mov (zc 0))]
def qzj : IC := zr [zm 7 0, zi 8 (.call (.c (.fn 108 [] [])) [((.t 7), .id)]), zm 5 8]
def qy1 : IC := zr [zm 9 1, zi 10 (.call (.c (.fn 108 [] [])) [((.t 9), .id)]), zm 6 10]
def qxp : IC := zr [zm 11 5]
def qw2 : IC := zr [zm 12 6]
def qyp : IC := zr [zv 4 (.mov (zc 0))]
def q29 : IC := zr [zv 4 (.mov (zc (-1)))]
def q2y : IC := zr [zm 13 6]
def q09 : IC := zr [zv 4 (.mov (zc 1))]
def qxa : IC := zr [zm 14 0, zm 15 1, zv 16 (.bin .lss .no (.t 14) (.t 15))]
def qv3 : IC := zr [zv 4 (.mov (zc (-1)))]
def qtz : IC := zr [zm 17 0, zm 18 1, zv 19 (.bin .gtr .no (.t 17) (.t 18))]
def qtp : IC := zr [zv 4 (.mov (zc 1))]
def qs5 : IC := zr [zv 4 (.mov (zc 0))]
def k0bi : IC := (.seq q3d (.seq qzj (.seq qy1 (.seq (.seq qxp (.cond (.t 11) (.seq (.seq qw2 (.cond (.t 12) (.seq qyp .ret) .skip)) (.seq q29 .ret)) .skip)) (.seq (.seq q2y (.cond (.t 13) (.seq q09 .ret) .skip)) (.seq (.seq qxa (.cond (.t 16) (.seq qv3 .ret) .skip)) (.seq (.seq qtz (.cond (.t 19) (.seq qtp .ret) .skip)) (.seq qs5 .ret))))))))
@[go_sem] def s0bi : List (RV × Co) := [(.t 4, .id)]
theorem c0bi : cFun Try.prog 74 = some (20, k0bi, s0bi) := by kernel_rfl

def q7z : IC := zr [zi 1 (.box (.t 0)), zv 2 (.mov (.c (.str [])))]
def q5c : IC := zr [zv 3 (.ld true 3 (.t 1)), zi 4 (.call (.c (.fn 48 [] [])) [((.t 3), (.agg [.id, .id, (.sl 3)]))]), zv 5 (.un .not (.t 4))]
def q85 : IC := zr [zv 2 (.mov (.c (.str [])))]
def qbam : IC := zr [zv 6 (.ld true 3 (.t 1)), zi 7 (.call (.c (.fn 109 [] [])) [((.t 6), (.agg [.id, .id, (.sl 3)]))]), zm 2 7]
def k0d : IC := (.seq q7z (.seq (.seq q5c (.cond (.t 5) (.seq q85 .ret) .skip)) (.seq qbam .ret)))
@[go_sem] def s0d : List (RV × Co) := [(.t 2, .id)]
theorem c0d : cFun Try.prog 75 = some (8, k0d, s0d) := by kernel_rfl

def q7j : IC := zr [zi 2 (.box (.t 0)), zi 3 (.box (.t 1)), zv 4 zf]
def qbat : IC := .drw [zp (zv 6 (.ld true 3 (.t 2))), (zi 7 (.call (.c (.fn 88 [] [])) [((.t 6), (.agg [.id, .id, (.sl 3)]))]), []), (zv 8 (.ld true 3 (.t 3)), [1]), (zi 9 (.call (.c (.fn 88 [] [])) [((.t 8), (.agg [.id, .id, (.sl 3)]))]), []), (zv 10 (.bin .neq (.cells [.str, (.int .i64), (.int .i64)]) (.t 7) (.t 9)), [])]
def q4r : IC := zr [zv 4 zf]
def q9r : IC := zr [zv 11 (.fad (.t 2) 2), zv 12 (.ld false 1 (.t 11)), zv 13 (.len false (.t 12)), zv 14 (.mov (zc 0))]
def qbae : IC := zr [zv 15 (.bin .lss .no (.t 14) (.t 13))]
def q9j : IC := zr [zm 16 14, zm 5 16]
def q6d : IC := .drw [zp (zv 17 (.fad (.t 2) 2)), zp (zv 18 (.ld false 1 (.t 17))), zp (zm 19 5), zp (zv 20 (.iad 3 (.t 18) (.t 19))), zp (zv 21 (.ld true 3 (.t 20))), zp (zv 22 (.fad (.t 3) 2)), zp (zv 23 (.ld false 1 (.t 22))), zp (zm 24 5), zp (zv 25 (.iad 3 (.t 23) (.t 24))), zp (zv 26 (.ld true 3 (.t 25))), (zi 27 (.call (.c (.fn 76 [] [])) [((.t 21), (.agg [.id, .id, (.sl 3)])), ((.t 26), (.agg [.id, .id, (.sl 3)]))]), []), zp (zv 28 (.un .not (.t 27)))]
def q8g : IC := zr [zv 4 zf]
def q4y : IC := zr [zv 29 (.bin .add .no (.t 14) (zc 1)), zm 14 29]
def q5i : IC := (.seq qbae (.seq (.cond (.t 15) .skip (.exit 0)) (.seq (.block 1 (.seq q9j (.seq q6d (.cond (.t 28) (.seq q8g .ret) .skip)))) q4y)))
def qyl : IC := zr [zv 4 (.mov (.c (.bool true)))]
def k0o : IC := (.seq q7j (.seq (.seq qbat (.cond (.t 10) (.seq q4r .ret) .skip)) (.seq (.seq q9r (.block 0 (.loop q5i))) (.seq qyl .ret))))
@[go_sem] def s0o : List (RV × Co) := [(.t 4, .id)]
theorem c0o : cFun Try.prog 76 = some (30, k0o, s0o) := by kernel_rfl

def q77 : IC := zr [zi 3 (.box (.t 0)), zv 6 (.mov (zc 0))]
def q71 : IC := zr [zm 8 1, zv 9 (.bin .sub .no (.t 8) (zc 1)), zm 1 9]
def q7t : IC := zr [zm 10 2, zv 11 (.bin .lss .no (.t 10) (zc 1))]
def q47 : IC := zr [zv 6 (.mov (zc (-1)))]
def qbar : IC := zr [zv 7 (.mov (zc 0))]
def q74 : IC := zr [zm 12 7, zv 13 (.fad (.t 3) 2), zv 14 (.ld false 1 (.t 13)), zv 15 (.len false (.t 14)), zv 16 (.bin .lss .no (.t 12) (.t 15)), zm 17 16, zw 17 true 18 (.mov (.t 1)), zw 17 true 19 (.bin .geq .no (.t 18) (zc 0)), zv 20 (.pick (.t 17) (.t 19) (.c (.bool false)))]
def q7q : IC := zr [zv 23 (.fad (.t 3) 2), zv 24 (.ld false 1 (.t 23)), zm 25 7, zv 26 (.iad 3 (.t 24) (.t 25)), zv 27 (.ld true 3 (.t 26)), zm 28 1, zm 29 2, zv 30 (.bin .sub .no (.t 29) (zc 1)), zi 31 (.call (.c (.fn 77 [] [])) [((.t 27), (.agg [.id, .id, (.sl 3)])), ((.t 28), .id), ((.t 30), .id)]), zm 1 31]
def q5z : IC := zr [zm 21 7, zv 22 (.bin .add .no (.t 21) (zc 1)), zm 7 22]
def q9i : IC := (.seq (.seq q74 (.cond (.t 20) .skip (.exit 0))) (.seq (.block 1 q7q) q5z))
def q17 : IC := zr [zm 32 1, zm 6 32]
def k0g : IC := (.seq q77 (.seq q71 (.seq (.seq q7t (.cond (.t 11) (.seq q47 .ret) .skip)) (.seq (.seq qbar (.block 0 (.loop q9i))) (.seq q17 .ret)))))
@[go_sem] def s0g : List (RV × Co) := [(.t 6, .id)]
theorem c0g : cFun Try.prog 77 = some (33, k0g, s0g) := by kernel_rfl

def q38 : IC := zr [zi 3 (.box (.t 0)), zv 6 zf]
def qbao : IC := zr [zm 9 2, zv 10 (.ld true 3 (.t 3)), zm 11 1, zi 12 (.call (.t 9) [((.t 10), (.agg [.id, .id, (.sl 3)])), ((.t 11), .id)]), zv 13 (.un .not (.t 12))]
def q9a : IC := zr [zv 6 zf]
def q4t : IC := zr [zv 14 (.fad (.t 3) 2), zv 15 (.ld false 1 (.t 14)), zv 16 (.len false (.t 15)), zv 17 (.mov (zc 0))]
def q8q : IC := zr [zv 18 (.bin .lss .no (.t 17) (.t 16))]
def q6w : IC := zr [zv 19 (.iad 3 (.t 15) (.t 17)), zv 20 (.ld true 3 (.t 19)), zi 8 (.alo [(.str []), (.int .i64 0), .nils]), zn (.st 3 (.agg [.id, .id, (.sl 3)]) (.t 8) (.t 20))]
def q4m : IC := zr [zv 21 (.ld true 3 (.t 8)), zm 22 1, zv 23 (.bin .add .no (.t 22) (zc 1)), zm 24 2, zi 25 (.call (.c (.fn 86 [] [])) [((.t 21), (.agg [.id, .id, (.sl 3)])), ((.t 23), .id), ((.t 24), .id)]), zv 26 (.un .not (.t 25))]
def q4n : IC := zr [zv 6 zf]
def q9q : IC := zr [zv 27 (.bin .add .no (.t 17) (zc 1)), zm 17 27]
def qbaf : IC := (.seq q8q (.seq (.cond (.t 18) .skip (.exit 0)) (.seq (.block 1 (.seq q6w (.seq q4m (.cond (.t 26) (.seq q4n .ret) .skip)))) q9q)))
def q1n : IC := zr [zv 6 (.mov (.c (.bool true)))]
def k0s : IC := (.seq q38 (.seq (.seq qbao (.cond (.t 13) (.seq q9a .ret) .skip)) (.seq (.seq q4t (.block 0 (.loop qbaf))) (.seq q1n .ret))))
@[go_sem] def s0s : List (RV × Co) := [(.t 6, .id)]
theorem c0s : cFun Try.prog 86 = some (28, k0s, s0s) := by kernel_rfl

def q57 : IC := zr [zi 3 (.box (.t 0)), zv 5 zf]
def q4j : IC := zr [zv 6 (.ld false 1 (.t 2)), zv 7 (.bin .add .no (.t 6) (zc 1)), zn (.st 1 .id (.t 2) (.t 7))]
def q8p : IC := zr [zv 8 (.ld false 1 (.t 2)), zv 9 (.bin .leq .no (.t 8) (zc 4096)), zm 10 9, zw 10 true 11 (.mov (.t 1)), zw 10 true 12 (.bin .leq .no (.t 11) (zc 100)), zv 13 (.pick (.t 10) (.t 12) (.c (.bool false))), zm 14 13, zw 14 true 15 (.ld true 3 (.t 3)), ⟨some (14, true), some 16, .call (.c (.fn 88 [] [])) [((.t 15), (.agg [.id, .id, (.sl 3)]))]⟩, ⟨some (14, true), some 17, .call (.c (.fn 89 [] [])) [((.t 16), .id)]⟩, zv 18 (.pick (.t 14) (.t 17) (.c (.bool false))), zm 5 18]
def k0e : IC := (.seq q57 (.seq q4j (.seq q8p .ret)))
@[go_sem] def s0e : List (RV × Co) := [(.t 5, .id)]
theorem c0e : cFun Try.prog 87 = some (19, k0e, s0e) := by kernel_rfl

def q8v : IC := zr [zi 1 (.box (.t 0)), zi 2 (.alo [(.str []), (.int .i64 0), (.int .i64 0)])]
def q8f : IC := zr [zv 3 (.fad (.t 1) 0), zv 4 (.ld false 1 (.t 3)), zv 5 (.fad (.t 1) 1), zv 6 (.ld false 1 (.t 5)), zv 7 (.fad (.t 1) 2), zv 8 (.ld false 1 (.t 7)), zv 9 (.len false (.t 8)), zv 10 (.bld [(.str []), (.int .i64 0), (.int .i64 0)] [(0, 1, (.t 4)), (1, 1, (.t 6)), (2, 1, (.t 9))]), zn (.st 3 .id (.t 2) (.t 10))]
def k0n : IC := (.seq q8v (.seq q8f .ret))
@[go_sem] def s0n : List (RV × Co) := [(.c true 3 2, .id)]
theorem c0n : cFun Try.prog 88 = some (11, k0n, s0n) := by kernel_rfl

def q68 : IC := zr [zi 1 (.box (.t 0)), zv 2 zf]
def q78 : IC := zr [zv 4 (.fad (.t 1) 0), zv 5 (.ld false 1 (.t 4)), zv 6 (.bin .eql .no (.t 5) (.c (.str []))), zm 3 6]
def q6y : IC := zr [zv 7 (.fad (.t 1) 2), zv 8 (.ld false 1 (.t 7)), zv 9 (.bin .eql .no (.t 8) (zc 0)), zm 2 9]
def q9z : IC := zr [zv 11 (.fad (.t 1) 0), zv 12 (.ld false 1 (.t 11)), zv 13 (.bin .eql .no (.t 12) (.c (.str [45, 62]))), zm 10 13]
def q46 : IC := zr [zv 14 (.ld true 3 (.t 1)), zv 15 (.bld [(.str []), (.int .i64 0), (.int .i64 0)] [(0, 1, (.c (.str [45, 62]))), (1, 1, (zc 0)), (2, 1, (zc 2))]), zv 16 (.bin .eql (.cells [.str, (.int .i64), (.int .i64)]) (.t 14) (.t 15)), zm 2 16]
def q9h : IC := zr [zv 18 (.fad (.t 1) 0), zv 19 (.ld false 1 (.t 18)), zi 20 (.call (.c (.fn 119 [] [])) [((.t 19), .id)]), zm 17 20]
def q8d : IC := zr [zv 21 (.ld true 3 (.t 1)), zv 22 (.fad (.t 1) 0), zv 23 (.ld false 1 (.t 22)), zv 24 (.bld [(.str []), (.int .i64 0), (.int .i64 0)] [(0, 1, (.t 23))]), zv 25 (.bin .eql (.cells [.str, (.int .i64), (.int .i64)]) (.t 21) (.t 24)), zm 2 25]
def q5y : IC := zr [zv 26 (.fad (.t 1) 1), zv 27 (.ld false 1 (.t 26)), zv 28 (.bin .eql .no (.t 27) (zc 0)), zm 29 28, zw 29 true 30 (.fad (.t 1) 0), zw 29 true 31 (.ld false 1 (.t 30)), ⟨some (29, true), some 32, .call (.c (.fn 72 [] [])) [((.t 31), .id)]⟩, zv 33 (.pick (.t 29) (.t 32) (.c (.bool false))), zm 2 33]
def k0r : IC := (.seq q68 (.seq (.block 0 (.seq q78 (.cond (.t 3) (.seq q6y .ret) (.seq q9z (.cond (.t 10) (.seq q46 .ret) (.seq q9h (.cond (.t 17) (.seq q8d .ret) .skip))))))) (.seq q5y .ret)))
@[go_sem] def s0r : List (RV × Co) := [(.t 2, .id)]
theorem c0r : cFun Try.prog 89 = some (34, k0r, s0r) := by kernel_rfl

def q1g : IC := zr [zv 4 (.mov (zc 0))]
def qzx : IC := zr [zm 6 0, zv 7 (.len false (.t 6)), zv 8 (.mov (zc 0))]
def qy2 : IC := zr [zv 9 (.bin .lss .no (.t 8) (.t 7))]
def qz6 : IC := zr [zm 10 8, zm 5 10]
def q0b : IC := zr [zm 11 1, zm 12 0, zm 13 5, zv 14 (.iad 4 (.t 12) (.t 13)), zv 15 (.ld true 4 (.t 14)), zi 16 (.call (.t 11) [((.t 15), (.agg [.id, .id, .id, (.sl 3)]))])]
def q2q : IC := zr [zm 17 5, zm 4 17]
def qzv : IC := zr [zv 18 (.bin .add .no (.t 8) (zc 1)), zm 8 18]
def q0f : IC := (.seq qy2 (.seq (.cond (.t 9) .skip (.exit 0)) (.seq (.block 1 (.seq qz6 (.seq q0b (.cond (.t 16) (.seq q2q .ret) .skip)))) qzv)))
def qzq : IC := zr [zv 4 (.mov (zc (-1)))]
def k0bt : IC := (.seq q1g (.seq (.seq qzx (.block 0 (.loop q0f))) (.seq qzq .ret)))
@[go_sem] def s0bt : List (RV × Co) := [(.t 4, .id)]
theorem c0bt : cFun Try.prog 98 = some (19, k0bt, s0bt) := by kernel_rfl

def q8r : IC := zr [zi 3 (.box (.t 0)), zv 5 zf]
def q4e : IC := zr [zv 6 (.fad (.t 3) 0), zv 7 (.ld false 1 (.t 6)), zv 8 (.bin .eql .no (.t 7) (.c (.str []))), zm 9 8, zw 9 true 10 (.ld false 1 (.t 2)), zw 9 true 11 (.fad (.t 3) 1), zw 9 true 12 (.ld false 1 (.t 11)), ⟨some (9, true), some 13, .call (.c (.fn 66 [] [])) [((.t 10), (.sl 1)), ((.t 12), .id)]⟩, zw 9 true 14 (.un .not (.t 13)), zv 15 (.pick (.t 9) (.t 14) (.c (.bool false)))]
def q6c : IC := zr [zv 16 (.ld false 1 (.t 2)), zv 17 (.fad (.t 3) 1), zv 18 (.ld false 1 (.t 17)), zv 19 (.bsl 1 [((.t 18), .id)]), zi 20 (.app 1 (.int .i64 0) 8 (.sl 1) (.t 16) (.t 19)), zn (.st 1 (.sl 1) (.t 2) (.t 20))]
def q6q : IC := zr [zv 5 (.mov (.c (.bool true)))]
def k0l : IC := (.seq q8r (.seq (.seq q4e (.cond (.t 15) q6c .skip)) (.seq q6q .ret)))
@[go_sem] def s0l : List (RV × Co) := [(.t 5, .id)]
theorem c0l : cFun Try.prog 99 = some (21, k0l, s0l) := by kernel_rfl

def q7n : IC := zr [zv 4 (.mov (zc 0))]
def q5n : IC := zr [zm 6 0, zv 7 (.len false (.t 6)), zv 8 (.mov (zc 0))]
def q5p : IC := zr [zv 9 (.bin .lss .no (.t 8) (.t 7))]
def q53 : IC := zr [zm 10 8, zm 5 10]
def q33 : IC := zr [zm 11 1, zm 12 0, zm 13 5, zv 14 (.iad 1 (.t 12) (.t 13)), zv 15 (.ld false 1 (.t 14)), zv 16 (.bin .eql .no (.t 11) (.t 15))]
def q7b : IC := zr [zm 17 5, zm 4 17]
def q6x : IC := zr [zv 18 (.bin .add .no (.t 8) (zc 1)), zm 8 18]
def q5b : IC := (.seq q5p (.seq (.cond (.t 9) .skip (.exit 0)) (.seq (.block 1 (.seq q53 (.seq q33 (.cond (.t 16) (.seq q7b .ret) .skip)))) q6x)))
def q8n : IC := zr [zv 4 (.mov (zc (-1)))]
def k0i : IC := (.seq q7n (.seq (.seq q5n (.block 0 (.loop q5b))) (.seq q8n .ret)))
@[go_sem] def s0i : List (RV × Co) := [(.t 4, .id)]
theorem c0i : cFun Try.prog 100 = some (19, k0i, s0i) := by kernel_rfl

def q5g : IC := zr [zv 2 zf]
def q70 : IC := zr [zm 3 0, zv 4 (.bin .geq .no (.t 3) (.c (.int .u8 65))), zm 5 4, zw 5 true 6 (.mov (.t 0)), zw 5 true 7 (.bin .leq .no (.t 6) (.c (.int .u8 90))), zv 8 (.pick (.t 5) (.t 7) (.c (.bool false))), zm 2 8]
def k0y : IC := (.seq q5g (.seq q70 .ret))
@[go_sem] def s0y : List (RV × Co) := [(.t 2, .id)]
theorem c0y : cFun Try.prog 106 = some (9, k0y, s0y) := by kernel_rfl

def q9e : IC := zr [zv 2 zf]
def q7c : IC := zr [zm 5 0, zv 6 (.len true (.t 5)), zv 7 (.mov (zc 0))]
def qbaa : IC := zr [zv 8 (.bin .lss .no (.t 7) (.t 6))]
def q8t : IC := zr [zm 9 7, zm 3 9]
def q6h : IC := zr [zm 10 0, zm 11 3, zv 12 (.idx (.t 10) (.t 11)), zm 4 12]
def q4l : IC := zr [zm 13 4, zi 14 (.call (.c (.fn 128 [] [])) [((.t 13), .id)]), zv 15 (.un .not (.t 14)), zm 16 15, zw 16 true 17 (.mov (.t 4)), ⟨some (16, true), some 18, .call (.c (.fn 106 [] [])) [((.t 17), .id)]⟩, zw 16 true 19 (.un .not (.t 18)), zv 20 (.pick (.t 16) (.t 19) (.c (.bool false))), zm 21 20, zw 21 true 22 (.mov (.t 4)), zw 21 true 23 (.bin .lss .no (.t 22) (.c (.int .u8 48))), zw 21 true 24 (.mov (.t 23)), zw 24 false 25 (.mov (.t 4)), zw 24 false 26 (.bin .gtr .no (.t 25) (.c (.int .u8 57))), zw 21 true 27 (.pick (.t 24) (.c (.bool true)) (.t 26)), zv 28 (.pick (.t 21) (.t 27) (.c (.bool false))), zm 29 28, zw 29 true 30 (.mov (.t 4)), zw 29 true 31 (.bin .neq .no (.t 30) (.c (.int .u8 39))), zv 32 (.pick (.t 29) (.t 31) (.c (.bool false)))]
def q7o : IC := zr [zv 2 zf]
def q98 : IC := zr [zv 33 (.bin .add .no (.t 7) (zc 1)), zm 7 33]
def q8y : IC := (.seq qbaa (.seq (.cond (.t 8) .skip (.exit 0)) (.seq (.block 1 (.seq q8t (.seq q6h (.seq q4l (.cond (.t 32) (.seq q7o .ret) .skip))))) q98)))
def q3b : IC := zr [zv 2 (.mov (.c (.bool true)))]
def k0z : IC := (.seq q9e (.seq (.seq q7c (.block 0 (.loop q8y))) (.seq q3b .ret)))
@[go_sem] def s0z : List (RV × Co) := [(.t 2, .id)]
theorem c0z : cFun Try.prog 107 = some (34, k0z, s0z) := by kernel_rfl

def q0a : IC := zr [zv 2 zf]
def q23 : IC := zr [zm 3 0, zm 4 0, zv 5 (.bin .neq .no (.t 3) (.t 4)), zm 2 5]
def k0bh : IC := (.seq q0a (.seq q23 .ret))
@[go_sem] def s0bh : List (RV × Co) := [(.t 2, .id)]
theorem c0bh : cFun Try.prog 108 = some (6, k0bh, s0bh) := by kernel_rfl

def qbai : IC := zr [zi 1 (.box (.t 0)), zv 2 (.mov (.c (.str [])))]
def q4g : IC := zr [zv 6 (.fad (.t 1) 0), zv 7 (.ld false 1 (.t 6)), zv 8 (.bin .eql .no (.t 7) (.c (.str [45, 62])))]
def q5v : IC := .drw [zp (zv 9 (.fad (.t 1) 2)), zp (zv 10 (.ld false 1 (.t 9))), zp (zv 11 (.iad 3 (.t 10) (zc 0))), zp (zv 12 (.ld true 3 (.t 11))), zp (zv 13 (.fad (.t 1) 2)), zp (zv 14 (.ld false 1 (.t 13))), zp (zv 15 (.iad 3 (.t 14) (zc 0))), zp (zv 16 (.fad (.t 15) 0)), zp (zv 17 (.ld false 1 (.t 16))), (zv 18 (.bin .eql .no (.t 17) (.c (.str [45, 62]))), []), (zi 19 (.call (.c (.fn 129 [] [])) [((.t 12), (.agg [.id, .id, (.sl 3)])), ((.t 18), .id)]), []), (zv 20 (.bin .add .no (.t 19) (.c (.str [32, 45, 62, 32]))), []), zp (zv 21 (.fad (.t 1) 2)), (zv 22 (.ld false 1 (.t 21)), [10]), zp (zv 23 (.iad 3 (.t 22) (zc 1))), (zv 24 (.ld true 3 (.t 23)), [10]), (zi 25 (.call (.c (.fn 109 [] [])) [((.t 24), (.agg [.id, .id, (.sl 3)]))]), []), zp (zv 26 (.bin .add .no (.t 20) (.t 25))), zp (zm 2 26)]
def q32 : IC := zr [zi 3 (.bld 125 5)]
def qbas : IC := zr [zv 27 (.ld true 3 (.t 1)), zi 28 (.call (.c (.fn 88 [] [])) [((.t 27), (.agg [.id, .id, (.sl 3)]))]), zi 29 (.call (.c (.fn 130 [] [])) [((.t 28), .id)]), zi 30 (.call (.c (.fn 102 [] [])) [((.t 3), (.agg [.id, (.sl 1)])), ((.t 29), .id)])]
def q7a : IC := zr [zv 31 (.fad (.t 1) 2), zv 32 (.ld false 1 (.t 31)), zv 33 (.len false (.t 32)), zv 34 (.mov (zc 0))]
def qbap : IC := zr [zv 35 (.bin .lss .no (.t 34) (.t 33))]
def q8i : IC := zr [zv 36 (.iad 3 (.t 32) (.t 34)), zv 37 (.ld true 3 (.t 36)), zi 5 (.alo [(.str []), (.int .i64 0), .nils]), zn (.st 3 (.agg [.id, .id, (.sl 3)]) (.t 5) (.t 37))]
def q7d : IC := zr [zv 38 (.ld true 3 (.t 5)), zv 39 (.fad (.t 5) 2), zv 40 (.ld false 1 (.t 39)), zv 41 (.len false (.t 40)), zv 42 (.bin .gtr .no (.t 41) (zc 0)), zi 43 (.call (.c (.fn 129 [] [])) [((.t 38), (.agg [.id, .id, (.sl 3)])), ((.t 42), .id)]), zv 44 (.bin .add .no (.c (.str [32])) (.t 43)), zi 45 (.call (.c (.fn 102 [] [])) [((.t 3), (.agg [.id, (.sl 1)])), ((.t 44), .id)])]
def qzw : IC := zr [zv 46 (.bin .add .no (.t 34) (zc 1)), zm 34 46]
def q73 : IC := (.seq qbap (.seq (.cond (.t 35) .skip (.exit 0)) (.seq (.block 1 (.seq q8i q7d)) qzw)))
def q0c : IC := zr [zi 47 (.call (.c (.fn 103 [] [])) [((.t 3), (.agg [.id, (.sl 1)]))]), zm 2 47]
def k0c : IC := (.seq qbai (.seq (.seq q4g (.cond (.t 8) (.seq q5v .ret) .skip)) (.seq q32 (.seq qbas (.seq (.seq q7a (.block 0 (.loop q73))) (.seq q0c .ret))))))
@[go_sem] def s0c : List (RV × Co) := [(.t 2, .id)]
theorem c0c : cFun Try.prog 109 = some (48, k0c, s0c) := by kernel_rfl

def q4u : IC := zr [zv 2 zf]
def qban : IC := zr [zm 5 0, zi 6 (.call (.c (.fn 135 [] [])) [((.t 5), .id), ((.c (.str [33])), .id)]), zv 7 (.un .not (.t 6))]
def qbaj : IC := zr [zv 2 zf]
def q7w : IC := zr [zm 9 0, zv 10 (.sls (.t 9) (some (zc 1)) none), zi 11 (.call (.c (.fn 136 [] [])) [((.t 10), .id)]), zm 8 11, zv 12 (.ext (.t 8) 0), zv 13 (.ext (.t 8) 1), zm 3 12, zm 4 13]
def q6s : IC := .drw [zp (zm 14 4), zp (zv 15 (.bin .eql .no (.t 14) (zc 0))), zp (zm 16 15), zp (zw 16 true 17 (.mov (.t 3))), (⟨some (16, true), some 18, .call (.c (.fn 137 [] [])) [((.t 17), .id)]⟩, []), zp (zw 16 true 19 (.mov (.t 0))), zp (zw 16 true 20 (.sls (.t 19) (some (zc 1)) none)), zp (zw 16 true 21 (.bin .eql .no (.t 18) (.t 20))), zp (zv 22 (.pick (.t 16) (.t 21) (.c (.bool false)))), zp (zm 2 22)]
def k0q : IC := (.seq q4u (.seq (.seq qban (.cond (.t 7) (.seq qbaj .ret) .skip)) (.seq q7w (.seq q6s .ret))))
@[go_sem] def s0q : List (RV × Co) := [(.t 2, .id)]
theorem c0q : cFun Try.prog 119 = some (23, k0q, s0q) := by kernel_rfl

def q1a : IC := zr [zv 2 (.mov (.c (.str [])))]
def q0m : IC := zr [zm 5 0, zi 6 (.call (.c (.fn 143 [] [])) [((.t 5), .id)]), zm 3 6]
def q07 : IC := zr [zv 4 (.mov (.c (.str [])))]
def q3q : IC := zr [zm 7 3, zv 8 (.bin .gtr .no (.t 7) (.c (.int .u64 9)))]
def qxz : IC := zr [zm 9 3, zv 10 (.bin .rem .no (.t 9) (.c (.int .u64 10))), zv 11 (.bin .add .no (.c (.int .u64 48)) (.t 10)), zv 12 (.cvi .u8 (.t 11)), zv 13 (.bsl 1 [((.t 12), .id)]), zv 14 (.cbs (.t 13)), zm 15 4, zv 16 (.bin .add .no (.t 14) (.t 15)), zm 4 16]
def q2s : IC := zr [zm 17 3, zv 18 (.bin .quo .no (.t 17) (.c (.int .u64 10))), zm 3 18]
def q22 : IC := (.seq (.seq q3q (.cond (.t 8) .skip (.exit 0))) (.block 1 (.seq qxz q2s)))
def q1y : IC := zr [zm 19 3, zv 20 (.bin .add .no (.c (.int .u64 48)) (.t 19)), zv 21 (.cvi .u8 (.t 20)), zv 22 (.bsl 1 [((.t 21), .id)]), zv 23 (.cbs (.t 22)), zm 24 4, zv 25 (.bin .add .no (.t 23) (.t 24)), zm 4 25]
def qz4 : IC := zr [zm 26 0, zv 27 (.bin .lss .no (.t 26) (zc 0))]
def qtw : IC := zr [zm 28 4, zv 29 (.bin .add .no (.c (.str [45])) (.t 28)), zm 2 29]
def qs2 : IC := zr [zm 30 4, zm 2 30]
def k0bc : IC := (.seq q1a (.seq q0m (.seq q07 (.seq (.block 0 (.loop q22)) (.seq q1y (.seq (.seq qz4 (.cond (.t 27) (.seq qtw .ret) .skip)) (.seq qs2 .ret)))))))
@[go_sem] def s0bc : List (RV × Co) := [(.t 2, .id)]
theorem c0bc : cFun Try.prog 127 = some (31, k0bc, s0bc) := by kernel_rfl

def q66 : IC := zr [zv 2 zf]
def q4d : IC := zr [zm 3 0, zv 4 (.bin .geq .no (.t 3) (.c (.int .u8 97))), zm 5 4, zw 5 true 6 (.mov (.t 0)), zw 5 true 7 (.bin .leq .no (.t 6) (.c (.int .u8 122))), zv 8 (.pick (.t 5) (.t 7) (.c (.bool false))), zm 9 8, zw 9 false 10 (.mov (.t 0)), zw 9 false 11 (.bin .eql .no (.t 10) (.c (.int .u8 95))), zv 12 (.pick (.t 9) (.c (.bool true)) (.t 11)), zm 2 12]
def k0x : IC := (.seq q66 (.seq q4d .ret))
@[go_sem] def s0x : List (RV × Co) := [(.t 2, .id)]
theorem c0x : cFun Try.prog 128 = some (13, k0x, s0x) := by kernel_rfl

def q5x : IC := zr [zi 2 (.box (.t 0)), zv 4 (.mov (.c (.str [])))]
def q61 : IC := zr [zm 5 1]
def q6k : IC := zr [zv 6 (.ld true 3 (.t 2)), zi 7 (.call (.c (.fn 109 [] [])) [((.t 6), (.agg [.id, .id, (.sl 3)]))]), zv 8 (.bin .add .no (.c (.str [40])) (.t 7)), zv 9 (.bin .add .no (.t 8) (.c (.str [41]))), zm 4 9]
def qbag : IC := zr [zv 10 (.ld true 3 (.t 2)), zi 11 (.call (.c (.fn 109 [] [])) [((.t 10), (.agg [.id, .id, (.sl 3)]))]), zm 4 11]
def k0b : IC := (.seq q5x (.seq (.seq q61 (.cond (.t 5) (.seq q6k .ret) .skip)) (.seq qbag .ret)))
@[go_sem] def s0b : List (RV × Co) := [(.t 4, .id)]
theorem c0b : cFun Try.prog 129 = some (12, k0b, s0b) := by kernel_rfl

def q9w : IC := zr [zi 1 (.box (.t 0)), zv 2 (.mov (.c (.str [])))]
def q54 : IC := zr [zv 4 (.fad (.t 1) 0), zv 5 (.ld false 1 (.t 4)), zv 6 (.bin .neq .no (.t 5) (.c (.str []))), zm 3 6]
def q5s : IC := zr [zv 7 (.fad (.t 1) 0), zv 8 (.ld false 1 (.t 7)), zm 2 8]
def q7p : IC := zr [zv 10 (.fad (.t 1) 1), zv 11 (.ld false 1 (.t 10)), zv 12 (.bin .geq .no (.t 11) (zc 0)), zm 9 12]
def q9o : IC := zr [zv 13 (.fad (.t 1) 1), zv 14 (.ld false 1 (.t 13)), zi 15 (.call (.c (.fn 144 [] [])) [((.t 14), .id)]), zm 2 15]
def q6e : IC := zr [zv 16 (.fad (.t 1) 1), zv 17 (.ld false 1 (.t 16)), zv 18 (.bin .sub .no (zc (-1)) (.t 17)), zi 19 (.call (.c (.fn 137 [] [])) [((.t 18), .id)]), zv 20 (.bin .add .no (.c (.str [63])) (.t 19)), zm 2 20]
def k0a : IC := (.seq q9w (.seq (.block 0 (.seq q54 (.cond (.t 3) (.seq q5s .ret) (.seq q7p (.cond (.t 9) (.seq q9o .ret) .skip))))) (.seq q6e .ret)))
@[go_sem] def s0a : List (RV × Co) := [(.t 2, .id)]
theorem c0a : cFun Try.prog 130 = some (21, k0a, s0a) := by kernel_rfl

def q4s : IC := zr [zv 4 zf]
def q4f : IC := zr [zm 5 0, zm 6 1, zi 7 (.call (.c (.fn 147 [] [])) [((.t 5), .id), ((.t 6), .id)]), zm 4 7]
def k0u : IC := (.seq q4s (.seq q4f .ret))
@[go_sem] def s0u : List (RV × Co) := [(.t 4, .id)]
theorem c0u : cFun Try.prog 135 = some (8, k0u, s0u) := by kernel_rfl

def q7g : IC := zr [zv 2 (.mov (zc 0)), zv 3 (.mov (zc 0))]
def q5l : IC := zr [zm 8 0, zv 9 (.len true (.t 8)), zv 10 (.mov (zc 0))]
def q9n : IC := zr [zv 11 (.bin .lss .no (.t 10) (.t 9))]
def q6b : IC := zr [zm 12 10, zm 4 12]
def q4p : IC := zr [zm 13 0, zm 14 4, zv 15 (.idx (.t 13) (.t 14)), zv 16 (.bin .lss .no (.t 15) (.c (.int .u8 48))), zm 17 16, zw 17 false 18 (.mov (.t 0)), zw 17 false 19 (.mov (.t 4)), zw 17 false 20 (.idx (.t 18) (.t 19)), zw 17 false 21 (.bin .gtr .no (.t 20) (.c (.int .u8 57))), zv 22 (.pick (.t 17) (.c (.bool true)) (.t 21))]
def q5k : IC := zr [zv 2 (.mov (zc 0)), zv 3 (.mov (zc 5))]
def q5q : IC := zr [zv 23 (.bin .add .no (.t 10) (zc 1)), zm 10 23]
def q8b : IC := (.seq q9n (.seq (.cond (.t 11) .skip (.exit 0)) (.seq (.block 1 (.seq q6b (.seq q4p (.cond (.t 22) (.seq q5k .ret) .skip)))) q5q)))
def q80 : IC := zr [zm 24 0, zv 25 (.bin .eql .no (.t 24) (.c (.str [])))]
def q16 : IC := zr [zv 2 (.mov (zc 0)), zv 3 (.mov (zc 5))]
def qy8 : IC := zr [zv 5 (.mov (zc 0)), zv 6 (.mov (zc 0))]
def qz8 : IC := zr [zm 26 0, zm 27 6, zv 28 (.idx (.t 26) (.t 27)), zv 29 (.bin .sub .no (.t 28) (.c (.int .u8 48))), zv 30 (.cvi .i64 (.t 29)), zm 7 30]
def qy7 : IC := zr [zm 31 5, zm 32 7, zv 33 (.bin .sub .no (zc 9223372036854775807) (.t 32)), zv 34 (.bin .quo .no (.t 33) (zc 10)), zv 35 (.bin .gtr .no (.t 31) (.t 34))]
def q0w : IC := zr [zv 2 (.mov (zc 0)), zv 3 (.mov (zc 4))]
def q1r : IC := zr [zm 36 5, zv 37 (.bin .mul .no (zc 10) (.t 36)), zm 38 7, zv 39 (.bin .add .no (.t 37) (.t 38)), zm 5 39]
def qzm : IC := zr [zm 40 6, zv 41 (.bin .add .no (.t 40) (zc 1)), zm 6 41]
def q2t : IC := zr [zm 42 6, zm 43 0, zv 44 (.len true (.t 43)), zv 45 (.bin .lss .no (.t 42) (.t 44))]
def q2h : IC := zr [zm 46 5, zm 2 46, zv 3 (.mov (zc 0))]
def k0w : IC := (.seq q7g (.scope (.seq (.seq q5l (.block 0 (.loop q8b))) (.seq (.seq q80 (.cond (.t 25) (.seq q16 .ret) .skip)) (.seq qy8 (.seq (.label 0) (.seq qz8 (.seq (.seq qy7 (.cond (.t 35) (.seq q0w .ret) .skip)) (.seq q1r (.seq (.seq qzm (.seq q2t (.cond (.t 45) (.goto 0) .skip))) (.seq q2h .ret)))))))))))
@[go_sem] def s0w : List (RV × Co) := [(.t 2, .id), (.t 3, .id)]
theorem c0w : cFun Try.prog 136 = some (47, k0w, s0w) := by kernel_rfl

def qzs : IC := zr [zv 2 (.mov (.c (.str [])))]
def qz5 : IC := zr [zm 6 0, zv 7 (.cvi .u64 (.t 6)), zm 3 7]
def qzd : IC := zr [zm 8 0, zv 9 (.bin .lss .no (.t 8) (zc 0))]
def q1u : IC := zr [zm 10 3, zv 11 (.un .neg (.t 10)), zm 3 11]
def qxh : IC := zr [zi 4 (.alo [(.int .u8 0), (.int .u8 0), (.int .u8 0), (.int .u8 0), (.int .u8 0), (.int .u8 0), (.int .u8 0), (.int .u8 0), (.int .u8 0), (.int .u8 0), (.int .u8 0), (.int .u8 0), (.int .u8 0), (.int .u8 0), (.int .u8 0), (.int .u8 0), (.int .u8 0), (.int .u8 0), (.int .u8 0), (.int .u8 0)])]
def q0j : IC := zr [zv 5 (.mov (zc 20))]
def qxy : IC := zr [zm 12 5, zv 13 (.bin .sub .no (.t 12) (zc 1)), zm 5 13]
def q0s : IC := zr [zm 14 5, zm 15 3, zv 16 (.bin .rem .no (.t 15) (.c (.int .u64 10))), zv 17 (.bin .add .no (.c (.int .u64 48)) (.t 16)), zv 18 (.cvi .u8 (.t 17)), zv 19 (.aad 1 20 (.t 4) (.t 14)), zn (.st 1 .id (.t 19) (.t 18))]
def q12 : IC := zr [zm 20 3, zv 21 (.bin .quo .no (.t 20) (.c (.int .u64 10))), zm 3 21]
def qtd : IC := zr [zm 22 3, zv 23 (.bin .eql .no (.t 22) (.c (.int .u64 0)))]
def qzr : IC := (.block 1 (.seq qxy (.seq q0s (.seq q12 (.seq qtd (.cond (.t 23) (.exit 0) .skip))))))
def qwb : IC := zr [zm 24 0, zv 25 (.bin .lss .no (.t 24) (zc 0))]
def qvj : IC := zr [zm 26 5, zv 27 (.sla 20 (.t 4) (.t 26)), zv 28 (.cbs (.t 27)), zv 29 (.bin .add .no (.c (.str [45])) (.t 28)), zm 2 29]
def quj : IC := zr [zm 30 5, zv 31 (.sla 20 (.t 4) (.t 30)), zv 32 (.cbs (.t 31)), zm 2 32]
def k0bd : IC := (.seq qzs (.seq qz5 (.seq (.seq qzd (.cond (.t 9) q1u .skip)) (.seq qxh (.seq q0j (.seq (.block 0 (.loop qzr)) (.seq (.seq qwb (.cond (.t 25) (.seq qvj .ret) .skip)) (.seq quj .ret))))))))
@[go_sem] def s0bd : List (RV × Co) := [(.t 2, .id)]
theorem c0bd : cFun Try.prog 137 = some (33, k0bd, s0bd) := by kernel_rfl

def qyd : IC := zr [zv 2 (.mov (.c (.int .u64 0)))]
def q14 : IC := zr [zm 3 0, zv 4 (.bin .lss .no (.t 3) (zc 0))]
def q2z : IC := zr [zm 5 0, zv 6 (.cvi .u64 (.t 5)), zv 7 (.un .neg (.t 6)), zm 2 7]
def qyu : IC := zr [zm 8 0, zv 9 (.cvi .u64 (.t 8)), zm 2 9]
def k0bb : IC := (.seq qyd (.seq (.seq q14 (.cond (.t 4) (.seq q2z .ret) .skip)) (.seq qyu .ret)))
@[go_sem] def s0bb : List (RV × Co) := [(.t 2, .id)]
theorem c0bb : cFun Try.prog 143 = some (10, k0bb, s0bb) := by kernel_rfl

def qx4 : IC := zr [zv 2 (.mov (.c (.str [])))]
def q3s : IC := zr [zm 4 0, zv 5 (.bin .lss .no (.t 4) (zc 0))]
def qzz : IC := zr [zv 2 (.mov (.c (.str [])))]
def qyw : IC := zr [zm 6 0, zv 7 (.bin .rem .no (.t 6) (zc 26)), zv 8 (.bin .add .no (zc 97) (.t 7)), zv 9 (.cvi .u8 (.t 8)), zv 10 (.bsl 1 [((.t 9), .id)]), zv 11 (.cbs (.t 10)), zm 3 11]
def q11 : IC := zr [zm 12 0, zv 13 (.bin .lss .no (.t 12) (zc 26))]
def q1m : IC := zr [zm 14 3, zm 2 14]
def qxw : IC := zr [zm 15 3, zm 16 0, zv 17 (.bin .quo .no (.t 16) (zc 26)), zi 18 (.call (.c (.fn 137 [] [])) [((.t 17), .id)]), zv 19 (.bin .add .no (.t 15) (.t 18)), zm 2 19]
def k0be : IC := (.seq qx4 (.seq (.seq q3s (.cond (.t 5) (.seq qzz .ret) .skip)) (.seq qyw (.seq (.seq q11 (.cond (.t 13) (.seq q1m .ret) .skip)) (.seq qxw .ret)))))
@[go_sem] def s0be : List (RV × Co) := [(.t 2, .id)]
theorem c0be : cFun Try.prog 144 = some (20, k0be, s0be) := by kernel_rfl

def q4v : IC := zr [zv 2 (.mov (zc 0)), zv 3 (.mov (zc 0))]
def q5d : IC := zr [zm 8 0, zv 9 (.bin .eql .no (.t 8) (.c (.str [])))]
def q97 : IC := zr [zv 2 (.mov (zc 0)), zv 3 (.mov (zc 5))]
def q6a : IC := zr [zv 4 (.mov (zc 0))]
def q51 : IC := zr [zm 10 4, zm 11 0, zv 12 (.len true (.t 11)), zv 13 (.bin .lss .no (.t 10) (.t 12))]
def q48 : IC := zr [zm 16 0, zm 17 4, zv 18 (.idx (.t 16) (.t 17)), zv 19 (.bin .lss .no (.t 18) (.c (.int .u8 48))), zm 20 19, zw 20 false 21 (.mov (.t 0)), zw 20 false 22 (.mov (.t 4)), zw 20 false 23 (.idx (.t 21) (.t 22)), zw 20 false 24 (.bin .gtr .no (.t 23) (.c (.int .u8 57))), zv 25 (.pick (.t 20) (.c (.bool true)) (.t 24))]
def q39 : IC := zr [zv 2 (.mov (zc 0)), zv 3 (.mov (zc 5))]
def q7s : IC := zr [zm 14 4, zv 15 (.bin .add .no (.t 14) (zc 1)), zm 4 15]
def q8o : IC := (.seq (.seq q51 (.cond (.t 13) .skip (.exit 0))) (.seq (.block 1 (.seq q48 (.cond (.t 25) (.seq q39 .ret) .skip))) q7s))
def q2k : IC := zr [zv 5 (.mov (zc 0))]
def q0h : IC := zr [zv 6 (.mov (zc 0))]
def qwy : IC := zr [zm 26 6, zm 27 0, zv 28 (.len true (.t 27)), zv 29 (.bin .lss .no (.t 26) (.t 28))]
def q2g : IC := zr [zm 32 0, zm 33 6, zv 34 (.idx (.t 32) (.t 33)), zv 35 (.bin .sub .no (.t 34) (.c (.int .u8 48))), zv 36 (.cvi .i64 (.t 35)), zm 7 36]
def q0e : IC := zr [zm 37 5, zm 38 7, zv 39 (.bin .sub .no (zc 9223372036854775807) (.t 38)), zv 40 (.bin .quo .no (.t 39) (zc 10)), zv 41 (.bin .gtr .no (.t 37) (.t 40))]
def q01 : IC := zr [zv 2 (.mov (zc 0)), zv 3 (.mov (zc 4))]
def qzi : IC := zr [zm 42 5, zv 43 (.bin .mul .no (zc 10) (.t 42)), zm 44 7, zv 45 (.bin .add .no (.t 43) (.t 44)), zm 5 45]
def qzc : IC := zr [zm 30 6, zv 31 (.bin .add .no (.t 30) (zc 1)), zm 6 31]
def q18 : IC := (.seq (.seq qwy (.cond (.t 29) .skip (.exit 2))) (.seq (.block 3 (.seq q2g (.seq (.seq q0e (.cond (.t 41) (.seq q01 .ret) .skip)) qzi))) qzc))
def q2o : IC := zr [zm 46 5, zm 2 46, zv 3 (.mov (zc 0))]
def k0v : IC := (.seq q4v (.seq (.seq q5d (.cond (.t 9) (.seq q97 .ret) .skip)) (.seq (.seq q6a (.block 0 (.loop q8o))) (.seq q2k (.seq (.seq q0h (.block 2 (.loop q18))) (.seq q2o .ret))))))
@[go_sem] def s0v : List (RV × Co) := [(.t 2, .id), (.t 3, .id)]
theorem c0v : cFun Try.prog 145 = some (47, k0v, s0v) := by kernel_rfl

def q5r : IC := zr [zv 4 zf]
def q82 : IC := zr [zm 5 0, zv 6 (.len true (.t 5)), zm 7 1, zv 8 (.len true (.t 7)), zv 9 (.bin .geq .no (.t 6) (.t 8)), zm 10 9, zw 10 true 11 (.mov (.t 0)), zw 10 true 12 (.mov (.t 1)), zw 10 true 13 (.len true (.t 12)), zw 10 true 14 (.sls (.t 11) none (some (.t 13))), zw 10 true 15 (.mov (.t 1)), zw 10 true 16 (.bin .eql .no (.t 14) (.t 15)), zv 17 (.pick (.t 10) (.t 16) (.c (.bool false))), zm 4 17]
def k0t : IC := (.seq q5r (.seq q82 .ret))
@[go_sem] def s0t : List (RV × Co) := [(.t 4, .id)]
theorem c0t : cFun Try.prog 147 = some (18, k0t, s0t) := by kernel_rfl

end Go.Proofs.Ytfpobiheiloamaa
