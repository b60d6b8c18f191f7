/- A text of this proof. -/
import Derived.Test.YtfpobiheiloamaaGaf
import Derived.Test.YtfpobiheiloamaaProg
/- The compiled code of the functions. -/
namespace Go.Proofs.Ytfpobiheiloamaa
open Go Go.V
@[reducible] def zm (d s : Nat) : GI := ⟨none, some d, .v (.mov (.t s))⟩
@[reducible] def zv (d : Nat) (x : IV) : GI := ⟨none, some d, .v x⟩
@[reducible] def zi (d : Nat) (i : I) : GI := ⟨none, some d, i⟩
@[reducible] def zn (i : I) : GI := ⟨none, none, i⟩
@[reducible] def zw (j : Nat) (b : Bool) (d : Nat) (x : IV) : GI := ⟨some (j, b), some d, .v x⟩
@[reducible] def zp (g : GI) : GI × List Nat := (g, [])
@[reducible] def zN : Co := .agg [.id, .id, .id, .id, (.sl 5)]
@[reducible] def zC : Co := .agg [(.sl 4), .id, .id, .id, .id, .id, .id, .id]
@[reducible] def zaN : I := .alo [(.int .i64 0), (.int .i64 0), (.int .i64 0), (.str []), .nils]
@[reducible] def zaC : I := .alo [.nils, (.int .i64 0), (.int .i64 0), (.int .i64 0), (.str []), (.int .i64 0), (.int .i64 0), (.int .i64 0)]
@[reducible] def zaT : I := .alo [(.int .i64 0), (.int .i64 0), (.int .i64 0), (.str [])]
@[reducible] def zZ : AV := .agg [(.int .i64 0), (.int .i64 0), (.int .i64 0), (.str []), .nils]
@[reducible] def zc (n : Int) : Opd := .c (.int .i64 n)
@[reducible] def zf : IV := .mov (.c (.bool false))
@[reducible] def zr (l : List GI) : IC := .reg false l
def q92 : IC := zr [zv 4 zf]
def qbbd : IC := zr [zm 11 0, zi 12 (.call (.c (.fn 30 [] [])) [((.t 11), (.sl 4))]), zv 13 (.bin .eql .no (.t 12) (zc 0)), zm 14 13, zw 14 false 15 (.mov (.t 1)), zw 14 false 16 (.len false (.t 15)), zw 14 false 17 (.bin .gtr .no (.t 16) (zc 20)), zv 18 (.pick (.t 14) (.c (.bool true)) (.t 17))]
def q8i : IC := zr [zi 19 (.call (.c (.fn 32 [] [])) []), zm 4 19]
def qbaz : IC := zr [zv 5 (.mov (zc 0))]
def q45 : IC := zr [zm 20 5, zm 21 1, zv 22 (.len false (.t 21)), zv 23 (.bin .lss .no (.t 20) (.t 22))]
def q28 : IC := zr [zm 26 1, zm 27 5, zv 28 (.iad 4 (.t 26) (.t 27)), zv 29 (.fad (.t 28) 1), zv 30 (.ld true 3 (.t 29)), zv 31 (.bsl 3 [((.t 30), (.agg [.id, .id, (.sl 3)]))]), zi 32 (.call (.c (.fn 31 [] [])) [((.t 31), (.sl 3))]), zv 33 (.bin .eql .no (.t 32) (zc 0))]
def qbcc : IC := zr [zi 34 (.call (.c (.fn 32 [] [])) []), zm 4 34]
def qbbe : IC := zr [zm 24 5, zv 25 (.bin .add .no (.t 24) (zc 1)), zm 5 25]
def q5g : IC := (.seq (.seq q45 (.cond (.t 23) .skip (.exit 0))) (.seq (.block 1 (.seq q28 (.cond (.t 33) (.seq qbcc .ret) .skip))) qbbe))
def qx9 : IC := zr [zm 36 0, zi 37 (.call (.c (.fn 33 [] [])) [((.t 36), (.sl 4))]), zm 38 1, zi 39 (.call (.c (.fn 49 [] [])) [((.t 37), .id), ((.t 38), (.sl 4))]), zm 35 39, zv 40 (.ext (.t 35) 0), zv 41 (.ext (.t 35) 1), zm 6 40, zm 7 41]
def qz9 : IC := zr [zm 43 0, zi 44 (.call (.c (.fn 34 [] [])) [((.t 43), (.sl 4))]), zm 45 1, zi 46 (.call (.c (.fn 50 [] [])) [((.t 44), (.sl 4)), ((.t 45), (.sl 4))]), zm 42 46, zv 47 (.ext (.t 42) 0), zv 48 (.ext (.t 42) 1), zm 8 47, zm 9 48]
def qy7 : IC := zr [zm 49 6, zv 50 (.len false (.t 49)), zm 51 8, zv 52 (.len false (.t 51)), zv 53 (.bin .neq .no (.t 50) (.t 52)), zm 54 53, zw 54 false 55 (.mov (.t 7)), zw 54 false 56 (.mov (.t 9)), zw 54 false 57 (.bin .neq .no (.t 55) (.t 56)), zv 58 (.pick (.t 54) (.c (.bool true)) (.t 57))]
def qx8 : IC := zr [zv 4 zf]
def qv6 : IC := zr [zv 10 (.mov (zc 0))]
def qw2 : IC := zr [zm 59 10, zm 60 6, zv 61 (.len false (.t 60)), zv 62 (.bin .lss .no (.t 59) (.t 61))]
def qw0 : IC := .drw [zp (zm 65 6), zp (zm 66 10), zp (zv 67 (.iad 4 (.t 65) (.t 66))), zp (zv 68 (.fad (.t 67) 0)), zp (zv 69 (.ld false 1 (.t 68))), zp (zm 70 8), zp (zm 71 10), zp (zv 72 (.iad 4 (.t 70) (.t 71))), zp (zv 73 (.fad (.t 72) 0)), zp (zv 74 (.ld false 1 (.t 73))), zp (zv 75 (.bin .neq .no (.t 69) (.t 74))), zp (zm 76 75), zp (zw 76 false 77 (.mov (.t 6))), zp (zw 76 false 78 (.mov (.t 10))), zp (zw 76 false 79 (.iad 4 (.t 77) (.t 78))), zp (zw 76 false 80 (.fad (.t 79) 1)), zp (zw 76 false 81 (.ld true 3 (.t 80))), zp (zw 76 false 82 (.mov (.t 8))), zp (zw 76 false 83 (.mov (.t 10))), zp (zw 76 false 84 (.iad 4 (.t 82) (.t 83))), zp (zw 76 false 85 (.fad (.t 84) 1)), zp (zw 76 false 86 (.ld true 3 (.t 85))), (⟨some (76, false), some 87, .call (.c (.fn 39 [] [])) [((.t 81), (.agg [.id, .id, (.sl 3)])), ((.t 86), (.agg [.id, .id, (.sl 3)]))]⟩, []), zp (zw 76 false 88 (.un .not (.t 87))), zp (zv 89 (.pick (.t 76) (.c (.bool true)) (.t 88)))]
def qxj : IC := zr [zv 4 zf]
def qyt : IC := zr [zm 63 10, zv 64 (.bin .add .no (.t 63) (zc 1)), zm 10 64]
def qxf : IC := (.seq (.seq qw2 (.cond (.t 62) .skip (.exit 2))) (.seq (.block 3 (.seq qw0 (.cond (.t 89) (.seq qxj .ret) .skip))) qyt))
def qyg : IC := zr [zi 90 (.call (.c (.fn 32 [] [])) []), zm 4 90]
def k0bb : IC := (.seq q92 (.seq (.seq qbbd (.cond (.t 18) (.seq q8i .ret) .skip)) (.seq (.seq qbaz (.block 0 (.loop q5g))) (.seq qx9 (.seq qz9 (.seq (.seq qy7 (.cond (.t 58) (.seq qx8 .ret) .skip)) (.seq (.seq qv6 (.block 2 (.loop qxf))) (.seq qyg .ret))))))))
@[go_sem] def s0bb : List (RV × Co) := [(.t 4, .id)]
theorem c0bb : cFun Try.prog 10 = some (91, k0bb, s0bb) := by kernel_rfl

def qbak : IC := zr [zv 2 (.mov (zc 0))]
def qbb6 : IC := zr [zm 5 0, zv 6 (.len false (.t 5)), zv 7 (.bin .gtr .no (.t 6) (zc 30))]
def q7h : IC := zr [zv 2 (.mov (zc 0))]
def q6e : IC := zr [zv 3 (.mov (.c .nils))]
def q56 : IC := zr [zv 4 (.mov (zc 0))]
def q9g : IC := zr [zm 8 4, zm 9 0, zv 10 (.len false (.t 9)), zv 11 (.bin .lss .no (.t 8) (.t 10))]
def q9o : IC := zr [zm 14 3, zm 15 0, zm 16 4, zv 17 (.iad 4 (.t 15) (.t 16)), zv 18 (.fad (.t 17) 1), zv 19 (.ld true 3 (.t 18)), zv 20 (.bsl 3 [((.t 19), (.agg [.id, .id, (.sl 3)]))]), zi 21 (.app 3 (.agg [(.str []), (.int .i64 0), .nils]) 48 (.sl 3) (.t 14) (.t 20)), zm 3 21]
def q4b : IC := zr [zm 12 4, zv 13 (.bin .add .no (.t 12) (zc 1)), zm 4 13]
def q7r : IC := (.seq (.seq q9g (.cond (.t 11) .skip (.exit 0))) (.seq (.block 1 q9o) q4b))
def qyp : IC := zr [zm 22 3, zi 23 (.call (.c (.fn 31 [] [])) [((.t 22), (.sl 3))]), zm 2 23]
def k0bf : IC := (.seq qbak (.seq (.seq qbb6 (.cond (.t 7) (.seq q7h .ret) .skip)) (.seq q6e (.seq (.seq q56 (.block 0 (.loop q7r))) (.seq qyp .ret)))))
@[go_sem] def s0bf : List (RV × Co) := [(.t 2, .id)]
theorem c0bf : cFun Try.prog 30 = some (24, k0bf, s0bf) := by kernel_rfl

def q61 : IC := zr [zv 2 (.mov (zc 0))]
def q72 : IC := zr [zv 3 (.mov (zc 20000))]
def q8b : IC := zr [zv 4 (.mov (zc 0))]
def q9s : IC := zr [zm 5 4, zm 6 0, zv 7 (.len false (.t 6)), zv 8 (.bin .lss .no (.t 5) (.t 7))]
def q2r : IC := zr [zm 11 0, zm 12 4, zv 13 (.iad 3 (.t 11) (.t 12)), zv 14 (.ld true 3 (.t 13)), zm 15 3, zi 16 (.call (.c (.fn 77 [] [])) [((.t 14), (.agg [.id, .id, (.sl 3)])), ((.t 15), .id), ((zc 300), .id)]), zm 3 16]
def q4c : IC := zr [zm 9 4, zv 10 (.bin .add .no (.t 9) (zc 1)), zm 4 10]
def qbb0 : IC := (.seq (.seq q9s (.cond (.t 8) .skip (.exit 0))) (.seq (.block 1 q2r) q4c))
def q29 : IC := zr [zm 17 3, zv 18 (.bin .lss .no (.t 17) (zc 0))]
def q1t : IC := zr [zv 2 (.mov (zc 0))]
def qv4 : IC := zr [zv 2 (.mov (zc 1))]
def k0ci : IC := (.seq q61 (.seq q72 (.seq (.seq q8b (.block 0 (.loop qbb0))) (.seq (.seq q29 (.cond (.t 18) (.seq q1t .ret) .skip)) (.seq qv4 .ret)))))
@[go_sem] def s0ci : List (RV × Co) := [(.t 2, .id)]
theorem c0ci : cFun Try.prog 31 = some (19, k0ci, s0ci) := by kernel_rfl

def q3b : IC := zr [zv 0 zf]
def q8w : IC := zr [zv 11 (.bld [(.str []), (.int .i64 0), .nils] [(0, 1, (.c (.str [84])))]), zi 1 (.alo [(.str []), (.int .i64 0), .nils]), zn (.st 3 (.agg [.id, .id, (.sl 3)]) (.t 1) (.t 11))]
def q7w : IC := zr [zv 12 (.ld true 3 (.t 1)), zv 13 (.bld [(.int .i64 0), (.str []), (.int .i64 0), .nils] [(1, 3, (.t 12))]), zv 14 (.bld [(.str []), (.int .i64 0), .nils] [(0, 1, (.c (.str [85])))]), zv 15 (.bld [(.int .i64 0), (.str []), (.int .i64 0), .nils] [(1, 3, (.t 14))]), zv 16 (.bsl 4 [((.t 13), (.agg [.id, .id, .id, (.sl 3)])), ((.t 15), (.agg [.id, .id, .id, (.sl 3)]))]), zi 17 (.call (.c (.fn 33 [] [])) [((.t 16), (.sl 4))]), zm 2 17]
def q1g : IC := zr [zm 18 2, zv 19 (.bin .eql .ptr (.t 18) (.c .nilp))]
def q2l : IC := zr [zv 0 zf]
def q3f : IC := zr [zm 21 2, zv 22 (.bld [(.str []), (.int .i64 0), .nils] []), zv 23 (.bld [(.str []), (.int .i64 0), .nils] [(1, 1, (zc 1))]), zv 24 (.bsl 3 [((.t 22), (.agg [.id, .id, (.sl 3)])), ((.t 23), (.agg [.id, .id, (.sl 3)]))]), zv 25 (.bld [(.str []), (.int .i64 0), .nils] [(0, 1, (.c (.str [45, 62]))), (2, 1, (.t 24))]), zi 26 (.call (.c (.fn 35 [] [])) [((.t 21), .id), ((.t 25), (.agg [.id, .id, (.sl 3)]))]), zm 20 26, zv 27 (.ext (.t 20) 0), zv 28 (.ext (.t 20) 1), zi 3 (.alo [(.str []), (.int .i64 0), .nils]), zn (.st 3 (.agg [.id, .id, (.sl 3)]) (.t 3) (.t 27)), zm 4 28]
def q84 : IC := zr [zm 29 2, zv 30 (.ld true 3 (.t 1)), zi 31 (.call (.c (.fn 45 [] [])) [((.t 29), .id), ((zc 0), .id), ((.t 30), (.agg [.id, .id, (.sl 3)]))]), zm 32 2, zv 33 (.bld [(.str []), (.int .i64 0), .nils] []), zi 34 (.call (.c (.fn 45 [] [])) [((.t 32), .id), ((zc 1), .id), ((.t 33), (.agg [.id, .id, (.sl 3)]))]), zm 5 31, zm 6 34]
def q5n : IC := zr [zm 36 2, zv 37 (.bld [(.str []), (.int .i64 0), .nils] [(0, 1, (.c (.str [86])))]), zv 38 (.bld [(.int .i64 0), (.str []), (.int .i64 0), .nils] [(1, 3, (.t 37))]), zv 39 (.bsl 4 [((.t 38), (.agg [.id, .id, .id, (.sl 3)]))]), zi 40 (.call (.c (.fn 33 [] [])) [((.t 39), (.sl 4))]), zi 41 (.call (.c (.fn 46 [] [])) [((.t 36), .id), ((.t 40), .id)]), zm 35 41, zv 42 (.ext (.t 35) 0), zv 43 (.ext (.t 35) 1), zm 7 42, zm 8 43]
def q83 : IC := zr [zm 45 7, zi 46 (.call (.c (.fn 37 [] [])) [((.t 45), .id), ((zc 1), .id)]), zm 44 46, zv 47 (.ext (.t 44) 0), zv 48 (.ext (.t 44) 1), zi 9 (.alo [(.str []), (.int .i64 0), .nils]), zn (.st 3 (.agg [.id, .id, (.sl 3)]) (.t 9) (.t 47)), zm 10 48]
def qbaf : IC := zr [zv 49 (.ld true 3 (.t 3)), zi 50 (.call (.c (.fn 75 [] [])) [((.t 49), (.agg [.id, .id, (.sl 3)]))]), zv 51 (.bin .eql .no (.t 50) (.c (.str [84, 32, 45, 62, 32, 98]))), zm 52 51, zw 52 true 53 (.mov (.t 4)), zw 52 true 54 (.bin .eql .no (.t 53) (zc 0)), zv 55 (.pick (.t 52) (.t 54) (.c (.bool false))), zm 56 55, zw 56 true 57 (.mov (.t 5)), zw 56 true 58 (.bin .eql .no (.t 57) (zc 6)), zv 59 (.pick (.t 56) (.t 58) (.c (.bool false))), zm 60 59, zw 60 true 61 (.mov (.t 6)), zw 60 true 62 (.bin .eql .no (.t 61) (zc 0)), zv 63 (.pick (.t 60) (.t 62) (.c (.bool false))), zm 64 63, zw 64 true 65 (.mov (.t 8)), zw 64 true 66 (.bin .eql .no (.t 65) (zc 0)), zv 67 (.pick (.t 64) (.t 66) (.c (.bool false))), zm 68 67, zw 68 true 69 (.fad (.t 9) 0), zw 68 true 70 (.ld false 1 (.t 69)), zw 68 true 71 (.bin .eql .no (.t 70) (.c (.str [86]))), zv 72 (.pick (.t 68) (.t 71) (.c (.bool false))), zm 73 72, zw 73 true 74 (.mov (.t 10)), zv 75 (.pick (.t 73) (.t 74) (.c (.bool false))), zm 76 75, zw 76 true 77 (.mov (.t 2)), ⟨some (76, true), some 78, .call (.c (.fn 41 [] [])) [((.t 77), .id)]⟩, zw 76 true 79 (.len false (.t 78)), zw 76 true 80 (.bin .eql .no (.t 79) (zc 2)), zv 81 (.pick (.t 76) (.t 80) (.c (.bool false))), zm 82 81, zw 82 true 83 (.mov (.t 2)), zw 82 true 84 (.bsl 1 [((zc 1), .id)]), ⟨some (82, true), some 85, .call (.c (.fn 42 [] [])) [((.t 83), .id), ((.t 84), (.sl 1))]⟩, ⟨some (82, true), some 86, .call (.c (.fn 41 [] [])) [((.t 85), .id)]⟩, zw 82 true 87 (.len false (.t 86)), zw 82 true 88 (.bin .eql .no (.t 87) (zc 1)), zv 89 (.pick (.t 82) (.t 88) (.c (.bool false))), zm 0 89]
def k0be : IC := (.seq q3b (.seq q8w (.seq q7w (.seq (.seq q1g (.cond (.t 19) (.seq q2l .ret) .skip)) (.seq q3f (.seq q84 (.seq q5n (.seq q83 (.seq qbaf .ret)))))))))
@[go_sem] def s0be : List (RV × Co) := [(.t 0, .id)]
theorem c0be : cFun Try.prog 32 = some (90, k0be, s0be) := by kernel_rfl

def q9n : IC := zr [zv 2 (.mov (.c .nilp))]
def q8g : IC := zr [zv 6 (.bld [.nils] []), zi 7 (.box (.t 6)), zm 3 7]
def q3w : IC := zr [zm 8 0, zv 9 (.len false (.t 8)), zv 10 (.mov (zc 0))]
def q7m : IC := zr [zv 11 (.bin .lss .no (.t 10) (.t 9))]
def qbbt : IC := zr [zv 12 (.iad 4 (.t 8) (.t 10)), zv 13 (.ld true 4 (.t 12)), zi 5 (.alo [(.int .i64 0), (.str []), (.int .i64 0), .nils]), zn (.st 4 (.agg [.id, .id, .id, (.sl 3)]) (.t 5) (.t 13))]
def q7g : IC := zr [zm 14 3, zv 15 (.fad (.t 5) 0), zv 16 (.ld false 1 (.t 15)), zv 17 (.fad (.t 5) 1), zv 18 (.ld true 3 (.t 17)), zi 19 (.call (.c (.fn 45 [] [])) [((.t 14), .id), ((.t 16), .id), ((.t 18), (.agg [.id, .id, (.sl 3)]))])]
def q3o : IC := zr [zv 20 (.bin .add .no (.t 10) (zc 1)), zm 10 20]
def q4t : IC := (.seq q7m (.seq (.cond (.t 11) .skip (.exit 0)) (.seq (.block 1 (.seq qbbt q7g)) q3o)))
def q33 : IC := zr [zm 21 3, zm 2 21]
def k0bk : IC := (.seq q9n (.seq q8g (.seq (.seq q3w (.block 0 (.loop q4t))) (.seq q33 .ret))))
@[go_sem] def s0bk : List (RV × Co) := [(.t 2, .id)]
theorem c0bk : cFun Try.prog 33 = some (22, k0bk, s0bk) := by kernel_rfl

def q3v : IC := zr [zv 2 (.mov (.c .nils))]
def qbbf : IC := zr [zv 3 (.mov (.c .nils))]
def q63 : IC := zr [zv 4 (.mov (zc 0))]
def q6a : IC := zr [zm 7 4, zm 8 0, zv 9 (.len false (.t 8)), zv 10 (.bin .lss .no (.t 7) (.t 9))]
def q1r : IC := .drw [zp (zm 14 3), zp (zm 15 0), zp (zm 16 4), zp (zv 17 (.iad 4 (.t 15) (.t 16))), zp (zv 18 (.fad (.t 17) 0)), zp (zv 19 (.ld false 1 (.t 18))), zp (zm 20 0), zp (zm 21 4), zp (zv 22 (.iad 4 (.t 20) (.t 21))), zp (zv 23 (.fad (.t 22) 1)), zp (zv 24 (.ld true 3 (.t 23))), (zi 25 (.call (.c (.fn 44 [] [])) [((.t 14), (.sl 4)), ((.t 19), .id), ((.t 24), (.agg [.id, .id, (.sl 3)]))]), []), zp (zm 13 25), zp (zv 26 (.ext (.t 13) 0)), zp (zv 27 (.ext (.t 13) 1)), zp (zm 5 26), zp (zm 6 27)]
def q5z : IC := zr [zm 28 5, zm 3 28]
def q3e : IC := zr [zm 11 4, zv 12 (.bin .add .no (.t 11) (zc 1)), zm 4 12]
def qbbv : IC := (.seq (.seq q6a (.cond (.t 10) .skip (.exit 0))) (.seq (.block 1 (.seq q1r q5z)) q3e))
def q6w : IC := zr [zm 29 3, zm 2 29]
def k0cl : IC := (.seq q3v (.seq qbbf (.seq (.seq q63 (.block 0 (.loop qbbv))) (.seq q6w .ret))))
@[go_sem] def s0cl : List (RV × Co) := [(.t 2, (.sl 4))]
theorem c0cl : cFun Try.prog 34 = some (30, k0cl, s0cl) := by kernel_rfl

def q85 : IC := zr [zi 3 (.box (.t 1)), zi 4 (.alo [(.str []), (.int .i64 0), .nils]), zv 5 (.mov (zc 0))]
def q08 : IC := zr [zv 8 (.ld true 3 (.t 3)), zi 9 (.call (.c (.fn 48 [] [])) [((.t 8), (.agg [.id, .id, (.sl 3)]))]), zv 10 (.un .not (.t 9))]
def q1f : IC := zr [zv 11 (.bld [(.str []), (.int .i64 0), .nils] []), zn (.st 3 (.agg [.id, .id, (.sl 3)]) (.t 4) (.t 11)), zv 5 (.mov (zc 1))]
def q7q : IC := zr [zm 12 0, zv 13 (.bld [.nilp, (.int .i64 0)] [(0, 1, (.t 12)), (1, 1, (zc 4096))]), zi 14 (.box (.t 13)), zm 6 14]
def q4q : IC := zr [zm 15 6, zv 16 (.ld true 3 (.t 3)), zi 17 (.call (.c (.fn 78 [] [])) [((.t 15), .id), ((.t 16), (.agg [.id, .id, (.sl 3)])), ((zc 1), .id)]), zi 7 (.alo [(.str []), (.int .i64 0), .nils]), zn (.st 3 (.agg [.id, .id, (.sl 3)]) (.t 7) (.t 17))]
def q99 : IC := zr [zm 18 6, zv 19 (.nck (.t 18)), zv 20 (.fad (.t 19) 1), zv 21 (.ld false 1 (.t 20)), zv 22 (.bin .lss .no (.t 21) (zc 0))]
def q19 : IC := zr [zv 23 (.bld [(.str []), (.int .i64 0), .nils] []), zn (.st 3 (.agg [.id, .id, (.sl 3)]) (.t 4) (.t 23)), zv 5 (.mov (zc 2))]
def q4f : IC := zr [zv 24 (.ld true 3 (.t 7)), zn (.st 3 (.agg [.id, .id, (.sl 3)]) (.t 4) (.t 24)), zv 5 (.mov (zc 0))]
def k0bj : IC := (.seq q85 (.seq (.seq q08 (.cond (.t 10) (.seq q1f .ret) .skip)) (.seq q7q (.seq q4q (.seq (.seq q99 (.cond (.t 22) (.seq q19 .ret) .skip)) (.seq q4f .ret))))))
@[go_sem] def s0bj : List (RV × Co) := [(.c true 3 4, (.agg [.id, .id, (.sl 3)])), (.t 5, .id)]
theorem c0bj : cFun Try.prog 35 = some (25, k0bj, s0bj) := by kernel_rfl

def q3n : IC := zr [zi 3 (.box (.t 1)), zi 4 (.alo [(.str []), (.int .i64 0), .nils]), zv 5 (.mov (zc 0))]
def qba0 : IC := zr [zv 7 (.ld true 3 (.t 3)), zi 8 (.call (.c (.fn 79 [] [])) [((.t 7), (.agg [.id, .id, (.sl 3)]))]), zv 9 (.un .not (.t 8))]
def q2i : IC := zr [zv 10 (.bld [(.str []), (.int .i64 0), .nils] []), zn (.st 3 (.agg [.id, .id, (.sl 3)]) (.t 4) (.t 10)), zv 5 (.mov (zc 1))]
def q4v : IC := zr [zm 11 0, zv 12 (.ld true 3 (.t 3)), zi 13 (.call (.c (.fn 80 [] [])) [((.t 11), (.sl 4)), ((.t 12), (.agg [.id, .id, (.sl 3)]))]), zv 14 (.bin .gtr .no (.t 13) (zc 4096))]
def q1s : IC := zr [zv 15 (.bld [(.str []), (.int .i64 0), .nils] []), zn (.st 3 (.agg [.id, .id, (.sl 3)]) (.t 4) (.t 15)), zv 5 (.mov (zc 2))]
def q3g : IC := zr [zm 16 0, zv 17 (.ld true 3 (.t 3)), zi 18 (.call (.c (.fn 81 [] [])) [((.t 16), (.sl 4)), ((.t 17), (.agg [.id, .id, (.sl 3)]))]), zi 6 (.alo [(.str []), (.int .i64 0), .nils]), zn (.st 3 (.agg [.id, .id, (.sl 3)]) (.t 6) (.t 18))]
def q50 : IC := zr [zv 19 (.ld true 3 (.t 6)), zi 20 (.call (.c (.fn 79 [] [])) [((.t 19), (.agg [.id, .id, (.sl 3)]))]), zv 21 (.un .not (.t 20))]
def qbcm : IC := zr [zv 22 (.bld [(.str []), (.int .i64 0), .nils] []), zn (.st 3 (.agg [.id, .id, (.sl 3)]) (.t 4) (.t 22)), zv 5 (.mov (zc 2))]
def q4o : IC := zr [zv 23 (.ld true 3 (.t 6)), zn (.st 3 (.agg [.id, .id, (.sl 3)]) (.t 4) (.t 23)), zv 5 (.mov (zc 0))]
def k0ck : IC := (.seq q3n (.seq (.seq qba0 (.cond (.t 9) (.seq q2i .ret) .skip)) (.seq (.seq q4v (.cond (.t 14) (.seq q1s .ret) .skip)) (.seq q3g (.seq (.seq q50 (.cond (.t 21) (.seq qbcm .ret) .skip)) (.seq q4o .ret))))))
@[go_sem] def s0ck : List (RV × Co) := [(.c true 3 4, (.agg [.id, .id, (.sl 3)])), (.t 5, .id)]
theorem c0ck : cFun Try.prog 36 = some (24, k0ck, s0ck) := by kernel_rfl

def qbae : IC := zr [zi 4 (.alo [(.str []), (.int .i64 0), .nils]), zv 5 zf]
def qbco : IC := zr [zm 8 0, zv 9 (.bin .eql .ptr (.t 8) (.c .nilp))]
def q6y : IC := zr [zv 10 (.bld [(.str []), (.int .i64 0), .nils] []), zn (.st 3 (.agg [.id, .id, (.sl 3)]) (.t 4) (.t 10)), zv 5 zf]
def q91 : IC := zr [zm 12 0, zm 13 1, zi 14 (.call (.c (.fn 82 [] [])) [((.t 12), .id), ((.t 13), .id)]), zm 11 14, zv 15 (.ext (.t 11) 0), zv 16 (.ext (.t 11) 1), zm 6 15, zm 7 16]
def q4e : IC := zr [zm 17 7, zv 18 (.un .not (.t 17))]
def q35 : IC := zr [zv 19 (.bld [(.str []), (.int .i64 0), .nils] []), zn (.st 3 (.agg [.id, .id, (.sl 3)]) (.t 4) (.t 19)), zv 5 zf]
def q5j : IC := zr [zm 20 0, zv 21 (.nck (.t 20)), zv 22 (.fad (.t 21) 0), zv 23 (.ld false 1 (.t 22)), zm 24 6, zv 25 (.iad 4 (.t 23) (.t 24)), zv 26 (.fad (.t 25) 1), zv 27 (.ld true 3 (.t 26)), zn (.st 3 (.agg [.id, .id, (.sl 3)]) (.t 4) (.t 27)), zv 5 (.mov (.c (.bool true)))]
def k0bn : IC := (.seq qbae (.seq (.seq qbco (.cond (.t 9) (.seq q6y .ret) .skip)) (.seq q91 (.seq (.seq q4e (.cond (.t 18) (.seq q35 .ret) .skip)) (.seq q5j .ret)))))
@[go_sem] def s0bn : List (RV × Co) := [(.c true 3 4, (.agg [.id, .id, (.sl 3)])), (.t 5, .id)]
theorem c0bn : cFun Try.prog 37 = some (28, k0bn, s0bn) := by kernel_rfl

def q6l : IC := zr [zi 4 (.alo [(.str []), (.int .i64 0), .nils]), zv 5 zf]
def q3h : IC := zr [zv 6 (.mov (zc 0))]
def qbax : IC := zr [zm 7 6, zm 8 0, zv 9 (.len false (.t 8)), zv 10 (.bin .lss .no (.t 7) (.t 9))]
def q2g : IC := zr [zm 13 0, zm 14 6, zv 15 (.iad 4 (.t 13) (.t 14)), zv 16 (.fad (.t 15) 0), zv 17 (.ld false 1 (.t 16)), zm 18 1, zv 19 (.bin .eql .no (.t 17) (.t 18))]
def q3j : IC := zr [zm 20 0, zm 21 6, zv 22 (.iad 4 (.t 20) (.t 21)), zv 23 (.fad (.t 22) 1), zv 24 (.ld true 3 (.t 23)), zn (.st 3 (.agg [.id, .id, (.sl 3)]) (.t 4) (.t 24)), zv 5 (.mov (.c (.bool true)))]
def q5e : IC := zr [zm 11 6, zv 12 (.bin .add .no (.t 11) (zc 1)), zm 6 12]
def q1o : IC := (.seq (.seq qbax (.cond (.t 10) .skip (.exit 0))) (.seq (.block 1 (.seq q2g (.cond (.t 19) (.seq q3j .ret) .skip))) q5e))
def q8z : IC := zr [zv 25 (.bld [(.str []), (.int .i64 0), .nils] []), zn (.st 3 (.agg [.id, .id, (.sl 3)]) (.t 4) (.t 25)), zv 5 zf]
def k0bs : IC := (.seq q6l (.seq (.seq q3h (.block 0 (.loop q1o))) (.seq q8z .ret)))
@[go_sem] def s0bs : List (RV × Co) := [(.c true 3 4, (.agg [.id, .id, (.sl 3)])), (.t 5, .id)]
theorem c0bs : cFun Try.prog 38 = some (26, k0bs, s0bs) := by kernel_rfl

def qbgz : IC := zr [zi 2 (.box (.t 0)), zi 3 (.box (.t 1)), zv 4 zf]
def qbdb : IC := zr [zv 6 (.fad (.t 2) 0), zv 7 (.ld false 1 (.t 6)), zv 8 (.fad (.t 3) 0), zv 9 (.ld false 1 (.t 8)), zv 10 (.bin .neq .no (.t 7) (.t 9)), zm 11 10, zw 11 false 12 (.fad (.t 2) 1), zw 11 false 13 (.ld false 1 (.t 12)), zw 11 false 14 (.fad (.t 3) 1), zw 11 false 15 (.ld false 1 (.t 14)), zw 11 false 16 (.bin .neq .no (.t 13) (.t 15)), zv 17 (.pick (.t 11) (.c (.bool true)) (.t 16)), zm 18 17, zw 18 false 19 (.fad (.t 2) 2), zw 18 false 20 (.ld false 1 (.t 19)), zw 18 false 21 (.len false (.t 20)), zw 18 false 22 (.fad (.t 3) 2), zw 18 false 23 (.ld false 1 (.t 22)), zw 18 false 24 (.len false (.t 23)), zw 18 false 25 (.bin .neq .no (.t 21) (.t 24)), zv 26 (.pick (.t 18) (.c (.bool true)) (.t 25))]
def qbe5 : IC := zr [zv 4 zf]
def qbgt : IC := zr [zv 5 (.mov (zc 0))]
def qbdl : IC := zr [zm 27 5, zv 28 (.fad (.t 2) 2), zv 29 (.ld false 1 (.t 28)), zv 30 (.len false (.t 29)), zv 31 (.bin .lss .no (.t 27) (.t 30))]
def qbdo : IC := .drw [zp (zv 34 (.fad (.t 2) 2)), zp (zv 35 (.ld false 1 (.t 34))), zp (zm 36 5), zp (zv 37 (.iad 3 (.t 35) (.t 36))), zp (zv 38 (.ld true 3 (.t 37))), zp (zv 39 (.fad (.t 3) 2)), zp (zv 40 (.ld false 1 (.t 39))), zp (zm 41 5), zp (zv 42 (.iad 3 (.t 40) (.t 41))), zp (zv 43 (.ld true 3 (.t 42))), (zi 44 (.call (.c (.fn 39 [] [])) [((.t 38), (.agg [.id, .id, (.sl 3)])), ((.t 43), (.agg [.id, .id, (.sl 3)]))]), []), zp (zv 45 (.un .not (.t 44)))]
def qbi4 : IC := zr [zv 4 zf]
def qbcw : IC := zr [zm 32 5, zv 33 (.bin .add .no (.t 32) (zc 1)), zm 5 33]
def qbdw : IC := (.seq (.seq qbdl (.cond (.t 31) .skip (.exit 0))) (.seq (.block 1 (.seq qbdo (.cond (.t 45) (.seq qbi4 .ret) .skip))) qbcw))
def q1h : IC := zr [zv 4 (.mov (.c (.bool true)))]
def k0e : IC := (.seq qbgz (.seq (.seq qbdb (.cond (.t 26) (.seq qbe5 .ret) .skip)) (.seq (.seq qbgt (.block 0 (.loop qbdw))) (.seq q1h .ret))))
@[go_sem] def s0e : List (RV × Co) := [(.t 4, .id)]
theorem c0e : cFun Try.prog 39 = some (46, k0e, s0e) := by kernel_rfl

def qba8 : IC := zr [zv 2 (.mov (.c .nils))]
def qbcf : IC := zr [zm 6 0, zv 7 (.bin .eql .ptr (.t 6) (.c .nilp))]
def q9l : IC := zr [zv 2 (.mov (.c .nils))]
def qbaj : IC := zr [zm 8 0, zv 9 (.nck (.t 8)), zv 10 (.fad (.t 9) 0), zv 11 (.ld false 1 (.t 10)), zv 12 (.len false (.t 11)), zi 13 (.mks 4 (.agg [(.int .i64 0), (.str []), (.int .i64 0), .nils]) 56 (.t 12) (.t 12)), zm 3 13]
def q8p : IC := zr [zm 14 0, zv 15 (.nck (.t 14)), zv 16 (.fad (.t 15) 0), zv 17 (.ld false 1 (.t 16)), zv 18 (.len false (.t 17)), zv 19 (.mov (zc 0))]
def qban : IC := zr [zv 20 (.bin .lss .no (.t 19) (.t 18))]
def q78 : IC := zr [zm 21 19, zv 22 (.iad 4 (.t 17) (.t 19)), zv 23 (.ld true 4 (.t 22)), zi 5 (.alo [(.int .i64 0), (.str []), (.int .i64 0), .nils]), zm 4 21, zn (.st 4 (.agg [.id, .id, .id, (.sl 3)]) (.t 5) (.t 23))]
def q5a : IC := .drw [zp (zm 24 3), zp (zm 25 4), zp (zv 26 (.fad (.t 5) 0)), zp (zv 27 (.ld false 1 (.t 26))), zp (zv 28 (.fad (.t 5) 1)), zp (zv 29 (.ld true 3 (.t 28))), (zi 30 (.call (.c (.fn 83 [] [])) [((.t 29), (.agg [.id, .id, (.sl 3)]))]), [3]), (zv 31 (.bld [(.int .i64 0), (.str []), (.int .i64 0), .nils] [(0, 1, (.t 27)), (1, 3, (.t 30))]), []), zp (zv 32 (.iad 4 (.t 24) (.t 25))), (zn (.st 4 (.agg [.id, .id, .id, (.sl 3)]) (.t 32) (.t 31)), [])]
def q4m : IC := zr [zv 33 (.bin .add .no (.t 19) (zc 1)), zm 19 33]
def qbac : IC := (.seq qban (.seq (.cond (.t 20) .skip (.exit 0)) (.seq (.block 1 (.seq q78 q5a)) q4m)))
def qxe : IC := zr [zm 34 3, zm 2 34]
def k0bi : IC := (.seq qba8 (.seq (.seq qbcf (.cond (.t 7) (.seq q9l .ret) .skip)) (.seq qbaj (.seq (.seq q8p (.block 0 (.loop qbac))) (.seq qxe .ret)))))
@[go_sem] def s0bi : List (RV × Co) := [(.t 2, (.sl 4))]
theorem c0bi : cFun Try.prog 41 = some (35, k0bi, s0bi) := by kernel_rfl

def q8u : IC := zr [zv 4 (.mov (.c .nilp))]
def q8j : IC := zr [zi 8 (.call (.c (.fn 33 [] [])) [((.c .nils), (.sl 4))]), zm 5 8]
def q4j : IC := zr [zm 9 0, zi 10 (.call (.c (.fn 41 [] [])) [((.t 9), .id)]), zv 11 (.len false (.t 10)), zv 12 (.mov (zc 0))]
def q1k : IC := zr [zv 13 (.bin .lss .no (.t 12) (.t 11))]
def q3x : IC := zr [zv 14 (.iad 4 (.t 10) (.t 12)), zv 15 (.ld true 4 (.t 14)), zi 7 (.alo [(.int .i64 0), (.str []), (.int .i64 0), .nils]), zn (.st 4 (.agg [.id, .id, .id, (.sl 3)]) (.t 7) (.t 15))]
def q2w : IC := zr [zm 16 1, zv 17 (.fad (.t 7) 0), zv 18 (.ld false 1 (.t 17)), zi 19 (.call (.c (.fn 66 [] [])) [((.t 16), (.sl 1)), ((.t 18), .id)])]
def qbad : IC := zr [zm 20 5, zv 21 (.fad (.t 7) 0), zv 22 (.ld false 1 (.t 21)), zv 23 (.fad (.t 7) 1), zv 24 (.ld true 3 (.t 23)), zi 25 (.call (.c (.fn 45 [] [])) [((.t 20), .id), ((.t 22), .id), ((.t 24), (.agg [.id, .id, (.sl 3)]))])]
def q2n : IC := zr [zv 26 (.bin .add .no (.t 12) (zc 1)), zm 12 26]
def q7z : IC := (.seq q1k (.seq (.cond (.t 13) .skip (.exit 0)) (.seq (.block 1 (.seq q3x (.seq q2w (.cond (.t 19) qbad .skip)))) q2n)))
def qyv : IC := zr [zm 27 5, zm 4 27]
def k0bh : IC := (.seq q8u (.seq q8j (.seq (.seq q4j (.block 0 (.loop q7z))) (.seq qyv .ret))))
@[go_sem] def s0bh : List (RV × Co) := [(.t 4, .id)]
theorem c0bh : cFun Try.prog 42 = some (28, k0bh, s0bh) := by kernel_rfl

def q9k : IC := zr [zi 5 (.box (.t 2)), zv 6 (.mov (.c .nils)), zv 7 (.mov (zc 0))]
def q5k : IC := zr [zv 11 (.ld true 3 (.t 5)), zi 12 (.call (.c (.fn 79 [] [])) [((.t 11), (.agg [.id, .id, (.sl 3)]))]), zv 13 (.un .not (.t 12))]
def q87 : IC := zr [zm 14 0, zm 6 14, zv 7 (.mov (zc 1))]
def qbck : IC := zr [zm 16 0, zm 17 1, zi 18 (.call (.c (.fn 38 [] [])) [((.t 16), (.sl 4)), ((.t 17), .id)]), zm 15 18, zv 19 (.ext (.t 15) 0), zv 20 (.ext (.t 15) 1), zi 8 (.alo [(.str []), (.int .i64 0), .nils]), zn (.st 3 (.agg [.id, .id, (.sl 3)]) (.t 8) (.t 19)), zm 9 20]
def q54 : IC := zr [zm 21 9]
def q30 : IC := zr [zm 22 0, zm 6 22, zv 7 (.mov (zc 6))]
def q8o : IC := zr [zv 10 (.mov (zc 0))]
def q23 : IC := zr [zm 23 10, zm 24 0, zv 25 (.len false (.t 24)), zv 26 (.bin .lss .no (.t 23) (.t 25)), zm 27 26, zw 27 true 28 (.mov (.t 0)), zw 27 true 29 (.mov (.t 10)), zw 27 true 30 (.iad 4 (.t 28) (.t 29)), zw 27 true 31 (.fad (.t 30) 0), zw 27 true 32 (.ld false 1 (.t 31)), zw 27 true 33 (.mov (.t 1)), zw 27 true 34 (.bin .lss .no (.t 32) (.t 33)), zv 35 (.pick (.t 27) (.t 34) (.c (.bool false)))]
def qbbx : IC := zr [zm 36 10, zv 37 (.bin .add .no (.t 36) (zc 1)), zm 10 37]
def qba2 : IC := (.seq (.seq q23 (.cond (.t 35) .skip (.exit 0))) (.block 1 qbbx))
def qy0 : IC := .drw [zp (zm 38 0), zp (zm 39 10), zp (zv 40 (.slv 4 (.t 38) none (some (.t 39)) none)), (zi 41 (.app 4 (.agg [(.int .i64 0), (.str []), (.int .i64 0), .nils]) 56 (.sl 4) (.c .nils) (.t 40)), []), zp (zm 42 1), (zv 43 (.ld true 3 (.t 5)), [3]), (zv 44 (.bld [(.int .i64 0), (.str []), (.int .i64 0), .nils] [(0, 1, (.t 42)), (1, 3, (.t 43))]), []), (zv 45 (.bsl 4 [((.t 44), (.agg [.id, .id, .id, (.sl 3)]))]), [3]), (zi 46 (.app 4 (.agg [(.int .i64 0), (.str []), (.int .i64 0), .nils]) 56 (.sl 4) (.t 41) (.t 45)), []), zp (zm 47 0), zp (zm 48 10), (zv 49 (.slv 4 (.t 47) (some (.t 48)) none none), [3, 8]), (zi 50 (.app 4 (.agg [(.int .i64 0), (.str []), (.int .i64 0), .nils]) 56 (.sl 4) (.t 46) (.t 49)), []), zp (zm 6 50), zp (zv 7 (.mov (zc 0)))]
def k0bt : IC := (.seq q9k (.seq (.seq q5k (.cond (.t 13) (.seq q87 .ret) .skip)) (.seq (.seq qbck (.seq q54 (.cond (.t 21) (.seq q30 .ret) .skip))) (.seq q8o (.seq (.block 0 (.loop qba2)) (.seq qy0 .ret))))))
@[go_sem] def s0bt : List (RV × Co) := [(.t 6, (.sl 4)), (.t 7, .id)]
theorem c0bt : cFun Try.prog 44 = some (51, k0bt, s0bt) := by kernel_rfl

def q41 : IC := zr [zi 5 (.box (.t 2)), zv 6 (.mov (zc 0))]
def q2v : IC := zr [zm 9 0, zv 10 (.bin .eql .ptr (.t 9) (.c .nilp)), zm 11 10, zw 11 false 12 (.ld true 3 (.t 5)), ⟨some (11, false), some 13, .call (.c (.fn 48 [] [])) [((.t 12), (.agg [.id, .id, (.sl 3)]))]⟩, zw 11 false 14 (.un .not (.t 13)), zv 15 (.pick (.t 11) (.c (.bool true)) (.t 14))]
def q9h : IC := zr [zv 6 (.mov (zc 1))]
def qbb5 : IC := zr [zm 17 0, zm 18 1, zi 19 (.call (.c (.fn 82 [] [])) [((.t 17), .id), ((.t 18), .id)]), zm 16 19, zv 20 (.ext (.t 16) 0), zv 21 (.ext (.t 16) 1), zm 7 20, zm 8 21]
def q7x : IC := zr [zm 22 8]
def q27 : IC := zr [zv 6 (.mov (zc 6))]
def q9m : IC := .drw [zp (zm 23 0), zp (zm 24 0), zp (zv 25 (.nck (.t 24))), zp (zv 26 (.fad (.t 25) 0)), zp (zv 27 (.ld false 1 (.t 26))), zp (zm 28 7), zp (zm 29 1), zp (zv 30 (.ld true 3 (.t 5))), (zi 31 (.call (.c (.fn 83 [] [])) [((.t 30), (.agg [.id, .id, (.sl 3)]))]), [4]), (zv 32 (.bld [(.int .i64 0), (.str []), (.int .i64 0), .nils] [(0, 1, (.t 29)), (1, 3, (.t 31))]), []), (zv 33 (.bsl 4 [((.t 32), (.agg [.id, .id, .id, (.sl 3)]))]), []), (zi 34 (.call (.c (.fn 85 [] [])) [((.t 27), (.sl 4)), ((.t 28), .id), ((.t 33), (.sl 4))]), []), zp (zv 35 (.nck (.t 23))), zp (zv 36 (.fad (.t 35) 0)), (zn (.st 1 (.sl 4) (.t 36) (.t 34)), [])]
def q8h : IC := zr [zv 6 (.mov (zc 0))]
def k0bm : IC := (.seq q41 (.seq (.seq q2v (.cond (.t 15) (.seq q9h .ret) .skip)) (.seq qbb5 (.seq (.seq q7x (.cond (.t 22) (.seq q27 .ret) .skip)) (.seq q9m (.seq q8h .ret))))))
@[go_sem] def s0bm : List (RV × Co) := [(.t 6, .id)]
theorem c0bm : cFun Try.prog 45 = some (37, k0bm, s0bm) := by kernel_rfl

def q10 : IC := zr [zv 4 (.mov (.c .nilp)), zv 5 (.mov (zc 0))]
def qbbb : IC := zr [zi 13 (.call (.c (.fn 33 [] [])) [((.c .nils), (.sl 4))]), zm 6 13]
def qbbn : IC := zr [zm 14 0, zi 15 (.call (.c (.fn 41 [] [])) [((.t 14), .id)]), zv 16 (.len false (.t 15)), zv 17 (.mov (zc 0))]
def q8s : IC := zr [zv 18 (.bin .lss .no (.t 17) (.t 16))]
def q06 : IC := zr [zv 19 (.iad 4 (.t 15) (.t 17)), zv 20 (.ld true 4 (.t 19)), zi 8 (.alo [(.int .i64 0), (.str []), (.int .i64 0), .nils]), zn (.st 4 (.agg [.id, .id, .id, (.sl 3)]) (.t 8) (.t 20))]
def q2c : IC := zr [zm 22 1, zv 23 (.fad (.t 8) 1), zv 24 (.ld true 3 (.t 23)), zi 25 (.call (.c (.fn 35 [] [])) [((.t 22), .id), ((.t 24), (.agg [.id, .id, (.sl 3)]))]), zm 21 25, zv 26 (.ext (.t 21) 0), zv 27 (.ext (.t 21) 1), zi 9 (.alo [(.str []), (.int .i64 0), .nils]), zn (.st 3 (.agg [.id, .id, (.sl 3)]) (.t 9) (.t 26)), zm 10 27]
def qbbm : IC := zr [zm 28 10, zv 29 (.bin .neq .no (.t 28) (zc 0))]
def qbbg : IC := zr [zm 30 10, zv 4 (.mov (.c .nilp)), zm 5 30]
def q2y : IC := zr [zm 31 6, zv 32 (.fad (.t 8) 0), zv 33 (.ld false 1 (.t 32)), zv 34 (.ld true 3 (.t 9)), zi 35 (.call (.c (.fn 45 [] [])) [((.t 31), .id), ((.t 33), .id), ((.t 34), (.agg [.id, .id, (.sl 3)]))])]
def qzn : IC := zr [zv 36 (.bin .add .no (.t 17) (zc 1)), zm 17 36]
def qbal : IC := (.seq q8s (.seq (.cond (.t 18) .skip (.exit 0)) (.seq (.block 1 (.seq q06 (.seq q2c (.seq (.seq qbbm (.cond (.t 29) (.seq qbbg .ret) .skip)) q2y)))) qzn)))
def qz3 : IC := zr [zm 37 1, zi 38 (.call (.c (.fn 41 [] [])) [((.t 37), .id)]), zv 39 (.len false (.t 38)), zv 40 (.mov (zc 0))]
def qyo : IC := zr [zv 41 (.bin .lss .no (.t 40) (.t 39))]
def qzd : IC := zr [zv 42 (.iad 4 (.t 38) (.t 40)), zv 43 (.ld true 4 (.t 42)), zi 12 (.alo [(.int .i64 0), (.str []), (.int .i64 0), .nils]), zn (.st 4 (.agg [.id, .id, .id, (.sl 3)]) (.t 12) (.t 43))]
def qw8 : IC := zr [zm 44 6, zv 45 (.fad (.t 12) 0), zv 46 (.ld false 1 (.t 45)), zv 47 (.fad (.t 12) 1), zv 48 (.ld true 3 (.t 47)), zi 49 (.call (.c (.fn 45 [] [])) [((.t 44), .id), ((.t 46), .id), ((.t 48), (.agg [.id, .id, (.sl 3)]))])]
def qzs : IC := zr [zv 50 (.bin .add .no (.t 40) (zc 1)), zm 40 50]
def qxk : IC := (.seq qyo (.seq (.cond (.t 41) .skip (.exit 2)) (.seq (.block 3 (.seq qzd qw8)) qzs)))
def qzw : IC := zr [zm 51 6, zm 4 51, zv 5 (.mov (zc 0))]
def k0bg : IC := (.seq q10 (.seq qbbb (.seq (.seq qbbn (.block 0 (.loop qbal))) (.seq (.seq qz3 (.block 2 (.loop qxk))) (.seq qzw .ret)))))
@[go_sem] def s0bg : List (RV × Co) := [(.t 4, .id), (.t 5, .id)]
theorem c0bg : cFun Try.prog 46 = some (52, k0bg, s0bg) := by kernel_rfl

def q6b : IC := zr [zi 1 (.box (.t 0)), zv 2 zf]
def q5v : IC := zr [zi 3 (.alo [(.int .i64 0)]), zn (.st 1 .id (.t 3) (zc 0))]
def q9z : IC := zr [zv 4 (.ld true 3 (.t 1)), zv 5 (.mfn 87 [] [(.t 3)]), zi 6 (.call (.c (.fn 86 [] [])) [((.t 4), (.agg [.id, .id, (.sl 3)])), ((zc 1), .id), ((.t 5), .id)]), zm 2 6]
def k0cb : IC := (.seq q6b (.seq q5v (.seq q9z .ret)))
@[go_sem] def s0cb : List (RV × Co) := [(.t 2, .id)]
theorem c0cb : cFun Try.prog 48 = some (7, k0cb, s0cb) := by kernel_rfl

def q6f : IC := zr [zv 4 (.mov (.c .nils)), zv 5 (.mov (zc 0))]
def q3q : IC := zr [zv 6 (.mov (.c .nils))]
def q58 : IC := zr [zm 11 1, zv 12 (.len false (.t 11)), zv 13 (.mov (zc 0))]
def q2u : IC := zr [zv 14 (.bin .lss .no (.t 13) (.t 12))]
def q9f : IC := zr [zv 15 (.iad 4 (.t 11) (.t 13)), zv 16 (.ld true 4 (.t 15)), zi 8 (.alo [(.str []), (.str []), (.int .i64 0), .nils]), zn (.st 4 (.agg [.id, .id, .id, (.sl 3)]) (.t 8) (.t 16))]
def q8r : IC := zr [zm 18 0, zv 19 (.fad (.t 8) 1), zv 20 (.ld true 3 (.t 19)), zi 21 (.call (.c (.fn 35 [] [])) [((.t 18), .id), ((.t 20), (.agg [.id, .id, (.sl 3)]))]), zm 17 21, zv 22 (.ext (.t 17) 0), zv 23 (.ext (.t 17) 1), zi 9 (.alo [(.str []), (.int .i64 0), .nils]), zn (.st 3 (.agg [.id, .id, (.sl 3)]) (.t 9) (.t 22)), zm 10 23]
def q4l : IC := zr [zm 24 10, zv 25 (.bin .neq .no (.t 24) (zc 0))]
def q03 : IC := zr [zm 26 10, zv 4 (.mov (.c .nils)), zm 5 26]
def q4n : IC := zr [zm 27 6, zv 28 (.fad (.t 8) 0), zv 29 (.ld false 1 (.t 28)), zv 30 (.ld true 3 (.t 9)), zv 31 (.bld [(.str []), (.str []), (.int .i64 0), .nils] [(0, 1, (.t 29)), (1, 3, (.t 30))]), zv 32 (.bsl 4 [((.t 31), (.agg [.id, .id, .id, (.sl 3)]))]), zi 33 (.app 4 (.agg [(.str []), (.str []), (.int .i64 0), .nils]) 64 (.sl 4) (.t 27) (.t 32)), zm 6 33]
def qxw : IC := zr [zv 34 (.bin .add .no (.t 13) (zc 1)), zm 13 34]
def q2o : IC := (.seq q2u (.seq (.cond (.t 14) .skip (.exit 0)) (.seq (.block 1 (.seq q9f (.seq q8r (.seq (.seq q4l (.cond (.t 25) (.seq q03 .ret) .skip)) q4n)))) qxw)))
def qx4 : IC := zr [zm 35 6, zm 4 35, zv 5 (.mov (zc 0))]
def k0bd : IC := (.seq q6f (.seq q3q (.seq (.seq q58 (.block 0 (.loop q2o))) (.seq qx4 .ret))))
@[go_sem] def s0bd : List (RV × Co) := [(.t 4, (.sl 4)), (.t 5, .id)]
theorem c0bd : cFun Try.prog 49 = some (36, k0bd, s0bd) := by kernel_rfl

def q70 : IC := zr [zv 4 (.mov (.c .nils)), zv 5 (.mov (zc 0))]
def q5i : IC := zr [zv 6 (.mov (.c .nils))]
def qbcn : IC := zr [zv 7 (.mov (zc 0))]
def q3y : IC := zr [zm 10 7, zm 11 1, zv 12 (.len false (.t 11)), zv 13 (.bin .lss .no (.t 10) (.t 12))]
def q52 : IC := zr [zm 17 0, zm 18 1, zm 19 7, zv 20 (.iad 4 (.t 18) (.t 19)), zv 21 (.fad (.t 20) 1), zv 22 (.ld true 3 (.t 21)), zi 23 (.call (.c (.fn 36 [] [])) [((.t 17), (.sl 4)), ((.t 22), (.agg [.id, .id, (.sl 3)]))]), zm 16 23, zv 24 (.ext (.t 16) 0), zv 25 (.ext (.t 16) 1), zi 8 (.alo [(.str []), (.int .i64 0), .nils]), zn (.st 3 (.agg [.id, .id, (.sl 3)]) (.t 8) (.t 24)), zm 9 25]
def q7e : IC := zr [zm 26 9, zv 27 (.bin .neq .no (.t 26) (zc 0))]
def q6c : IC := zr [zm 28 9, zv 4 (.mov (.c .nils)), zm 5 28]
def q15 : IC := .drw [zp (zm 29 6), zp (zm 30 1), zp (zm 31 7), zp (zv 32 (.iad 4 (.t 30) (.t 31))), zp (zv 33 (.fad (.t 32) 0)), zp (zv 34 (.ld false 1 (.t 33))), zp (zv 35 (.ld true 3 (.t 8))), (zv 36 (.bld [(.str []), (.str []), (.int .i64 0), .nils] [(0, 1, (.t 34)), (1, 3, (.t 35))]), []), (zv 37 (.bsl 4 [((.t 36), (.agg [.id, .id, .id, (.sl 3)]))]), []), (zi 38 (.app 4 (.agg [(.str []), (.str []), (.int .i64 0), .nils]) 64 (.sl 4) (.t 29) (.t 37)), []), zp (zm 6 38)]
def qbab : IC := zr [zm 14 7, zv 15 (.bin .add .no (.t 14) (zc 1)), zm 7 15]
def q3l : IC := (.seq (.seq q3y (.cond (.t 13) .skip (.exit 0))) (.seq (.block 1 (.seq q52 (.seq (.seq q7e (.cond (.t 27) (.seq q6c .ret) .skip)) q15))) qbab))
def qyd : IC := zr [zm 39 6, zm 4 39, zv 5 (.mov (zc 0))]
def k0bc : IC := (.seq q70 (.seq q5i (.seq (.seq qbcn (.block 0 (.loop q3l))) (.seq qyd .ret))))
@[go_sem] def s0bc : List (RV × Co) := [(.t 4, (.sl 4)), (.t 5, .id)]
theorem c0bc : cFun Try.prog 50 = some (40, k0bc, s0bc) := by kernel_rfl

def qbic : IC := zr [zv 4 zf]
def qbi3 : IC := zr [zm 5 0, zm 6 1, zi 7 (.call (.c (.fn 100 [] [])) [((.t 5), (.sl 1)), ((.t 6), .id)]), zv 8 (.bin .geq .no (.t 7) (zc 0)), zm 4 8]
def k0b : IC := (.seq qbic (.seq qbi3 .ret))
@[go_sem] def s0b : List (RV × Co) := [(.t 4, .id)]
theorem c0b : cFun Try.prog 66 = some (9, k0b, s0b) := by kernel_rfl

def qbe3 : IC := zr [zv 2 zf]
def qbib : IC := zr [zm 3 0, zv 4 (.bin .neq .no (.t 3) (.c (.str []))), zm 5 4, zw 5 true 6 (.mov (.t 0)), zw 5 true 7 (.idx (.t 6) (zc 0)), ⟨some (5, true), some 8, .call (.c (.fn 106 [] [])) [((.t 7), .id)]⟩, zv 9 (.pick (.t 5) (.t 8) (.c (.bool false))), zm 10 9, zw 10 true 11 (.mov (.t 0)), ⟨some (10, true), some 12, .call (.c (.fn 107 [] [])) [((.t 11), .id)]⟩, zv 13 (.pick (.t 10) (.t 12) (.c (.bool false))), zm 2 13]
def k0v : IC := (.seq qbe3 (.seq qbib .ret))
@[go_sem] def s0v : List (RV × Co) := [(.t 2, .id)]
theorem c0v : cFun Try.prog 72 = some (14, k0v, s0v) := by kernel_rfl

def q7k : IC := zr [zi 1 (.box (.t 0)), zv 2 (.mov (.c (.str [])))]
def qbbh : IC := zr [zv 3 (.ld true 3 (.t 1)), zi 4 (.call (.c (.fn 48 [] [])) [((.t 3), (.agg [.id, .id, (.sl 3)]))]), zv 5 (.un .not (.t 4))]
def q5u : IC := zr [zv 2 (.mov (.c (.str [])))]
def qbb2 : IC := zr [zv 6 (.ld true 3 (.t 1)), zi 7 (.call (.c (.fn 109 [] [])) [((.t 6), (.agg [.id, .id, (.sl 3)]))]), zm 2 7]
def k0bx : IC := (.seq q7k (.seq (.seq qbbh (.cond (.t 5) (.seq q5u .ret) .skip)) (.seq qbb2 .ret)))
@[go_sem] def s0bx : List (RV × Co) := [(.t 2, .id)]
theorem c0bx : cFun Try.prog 75 = some (8, k0bx, s0bx) := by kernel_rfl

def qbdd : IC := zr [zi 2 (.box (.t 0)), zi 3 (.box (.t 1)), zv 4 zf]
def qbgr : IC := .drw [zp (zv 6 (.ld true 3 (.t 2))), (zi 7 (.call (.c (.fn 88 [] [])) [((.t 6), (.agg [.id, .id, (.sl 3)]))]), []), (zv 8 (.ld true 3 (.t 3)), [1]), (zi 9 (.call (.c (.fn 88 [] [])) [((.t 8), (.agg [.id, .id, (.sl 3)]))]), []), (zv 10 (.bin .neq (.cells [.str, (.int .i64), (.int .i64)]) (.t 7) (.t 9)), [])]
def qbg6 : IC := zr [zv 4 zf]
def qbit : IC := zr [zv 11 (.fad (.t 2) 2), zv 12 (.ld false 1 (.t 11)), zv 13 (.len false (.t 12)), zv 14 (.mov (zc 0))]
def qbc5 : IC := zr [zv 15 (.bin .lss .no (.t 14) (.t 13))]
def qbgi : IC := zr [zm 16 14, zm 5 16]
def qbf4 : IC := .drw [zp (zv 17 (.fad (.t 2) 2)), zp (zv 18 (.ld false 1 (.t 17))), zp (zm 19 5), zp (zv 20 (.iad 3 (.t 18) (.t 19))), zp (zv 21 (.ld true 3 (.t 20))), zp (zv 22 (.fad (.t 3) 2)), zp (zv 23 (.ld false 1 (.t 22))), zp (zm 24 5), zp (zv 25 (.iad 3 (.t 23) (.t 24))), zp (zv 26 (.ld true 3 (.t 25))), (zi 27 (.call (.c (.fn 76 [] [])) [((.t 21), (.agg [.id, .id, (.sl 3)])), ((.t 26), (.agg [.id, .id, (.sl 3)]))]), []), zp (zv 28 (.un .not (.t 27)))]
def qbg5 : IC := zr [zv 4 zf]
def qbhj : IC := zr [zv 29 (.bin .add .no (.t 14) (zc 1)), zm 14 29]
def qbgq : IC := (.seq qbc5 (.seq (.cond (.t 15) .skip (.exit 0)) (.seq (.block 1 (.seq qbgi (.seq qbf4 (.cond (.t 28) (.seq qbg5 .ret) .skip)))) qbhj)))
def qbcq : IC := zr [zv 4 (.mov (.c (.bool true)))]
def k0d : IC := (.seq qbdd (.seq (.seq qbgr (.cond (.t 10) (.seq qbg6 .ret) .skip)) (.seq (.seq qbit (.block 0 (.loop qbgq))) (.seq qbcq .ret))))
@[go_sem] def s0d : List (RV × Co) := [(.t 4, .id)]
theorem c0d : cFun Try.prog 76 = some (30, k0d, s0d) := by kernel_rfl

def q2j : IC := zr [zi 3 (.box (.t 0)), zv 6 (.mov (zc 0))]
def q4d : IC := zr [zm 8 1, zv 9 (.bin .sub .no (.t 8) (zc 1)), zm 1 9]
def qbcl : IC := zr [zm 10 2, zv 11 (.bin .lss .no (.t 10) (zc 1))]
def q82 : IC := zr [zv 6 (.mov (zc (-1)))]
def q2z : IC := zr [zv 7 (.mov (zc 0))]
def q7d : IC := zr [zm 12 7, zv 13 (.fad (.t 3) 2), zv 14 (.ld false 1 (.t 13)), zv 15 (.len false (.t 14)), zv 16 (.bin .lss .no (.t 12) (.t 15)), zm 17 16, zw 17 true 18 (.mov (.t 1)), zw 17 true 19 (.bin .geq .no (.t 18) (zc 0)), zv 20 (.pick (.t 17) (.t 19) (.c (.bool false)))]
def q6j : IC := zr [zv 23 (.fad (.t 3) 2), zv 24 (.ld false 1 (.t 23)), zm 25 7, zv 26 (.iad 3 (.t 24) (.t 25)), zv 27 (.ld true 3 (.t 26)), zm 28 1, zm 29 2, zv 30 (.bin .sub .no (.t 29) (zc 1)), zi 31 (.call (.c (.fn 77 [] [])) [((.t 27), (.agg [.id, .id, (.sl 3)])), ((.t 28), .id), ((.t 30), .id)]), zm 1 31]
def q62 : IC := zr [zm 21 7, zv 22 (.bin .add .no (.t 21) (zc 1)), zm 7 22]
def q5x : IC := (.seq (.seq q7d (.cond (.t 20) .skip (.exit 0))) (.seq (.block 1 q6j) q62))
def qvx : IC := zr [zm 32 1, zm 6 32]
def k0ch : IC := (.seq q2j (.seq q4d (.seq (.seq qbcl (.cond (.t 11) (.seq q82 .ret) .skip)) (.seq (.seq q2z (.block 0 (.loop q5x))) (.seq qvx .ret)))))
@[go_sem] def s0ch : List (RV × Co) := [(.t 6, .id)]
theorem c0ch : cFun Try.prog 77 = some (33, k0ch, s0ch) := by kernel_rfl

def q2f : IC := zr [zi 4 (.box (.t 1)), zi 6 (.alo [(.str []), (.int .i64 0), .nils])]
def q2k : IC := zr [zv 11 (.fad (.t 4) 0), zv 12 (.ld false 1 (.t 11)), zv 13 (.bin .eql .no (.t 12) (.c (.str [])))]
def qbb8 : IC := .drw [zp (zm 15 0), zp (zv 16 (.nck (.t 15))), zp (zv 17 (.fad (.t 16) 0)), zp (zv 18 (.ld false 1 (.t 17))), zp (zv 19 (.fad (.t 4) 1)), zp (zv 20 (.ld false 1 (.t 19))), (zi 21 (.call (.c (.fn 37 [] [])) [((.t 18), .id), ((.t 20), .id)]), []), zp (zm 14 21), zp (zv 22 (.ext (.t 14) 0)), zp (zv 23 (.ext (.t 14) 1)), (zi 7 (.alo [(.str []), (.int .i64 0), .nils]), [3, 5, 6]), (zn (.st 3 (.agg [.id, .id, (.sl 3)]) (.t 7) (.t 22)), []), zp (zm 8 23)]
def q77 : IC := zr [zm 24 8]
def q9b : IC := .drw [zp (zm 25 0), zp (zv 26 (.nck (.t 25))), zp (zv 27 (.fad (.t 26) 1)), zp (zv 28 (.ld false 1 (.t 27))), zp (zv 29 (.ld true 3 (.t 7))), (zi 30 (.call (.c (.fn 110 [] [])) [((.t 29), (.agg [.id, .id, (.sl 3)]))]), [3]), zp (zv 31 (.bin .sub .no (.t 28) (.t 30))), zp (zv 32 (.nck (.t 25))), zp (zv 33 (.fad (.t 32) 1)), (zn (.st 1 .id (.t 33) (.t 31)), [])]
def q9u : IC := zr [zm 34 2, zv 35 (.ld true 3 (.t 7)), zi 36 (.call (.c (.fn 111 [] [])) [((.t 35), (.agg [.id, .id, (.sl 3)]))]), zv 37 (.bin .add .no (.t 34) (.t 36)), zv 38 (.bin .gtr .no (.t 37) (zc 101))]
def q1j : IC := zr [zm 39 0, zv 40 (.nck (.t 39)), zv 41 (.fad (.t 40) 1), zn (.st 1 .id (.t 41) (zc (-1)))]
def q5l : IC := zr [zv 42 (.ld true 3 (.t 7)), zi 43 (.call (.c (.fn 83 [] [])) [((.t 42), (.agg [.id, .id, (.sl 3)]))]), zn (.st 3 (.agg [.id, .id, (.sl 3)]) (.t 6) (.t 43))]
def q04 : IC := zr [zm 44 0, zv 45 (.nck (.t 44)), zv 46 (.fad (.t 45) 1), zv 47 (.ld false 1 (.t 46)), zv 48 (.bin .sub .no (.t 47) (zc 1)), zv 49 (.nck (.t 44)), zv 50 (.fad (.t 49) 1), zn (.st 1 .id (.t 50) (.t 48))]
def q22 : IC := zr [zv 51 (.fad (.t 4) 2), zv 52 (.ld false 1 (.t 51)), zv 53 (.len false (.t 52)), zi 54 (.mks 3 (.agg [(.str []), (.int .i64 0), .nils]) 48 (.t 53) (.t 53)), zm 9 54]
def qzb : IC := zr [zv 55 (.fad (.t 4) 2), zv 56 (.ld false 1 (.t 55)), zv 57 (.len false (.t 56)), zv 58 (.mov (zc 0))]
def qxv : IC := zr [zv 59 (.bin .lss .no (.t 58) (.t 57))]
def qyy : IC := zr [zm 60 58, zm 10 60]
def qxd : IC := zr [zm 61 0, zv 62 (.nck (.t 61)), zv 63 (.fad (.t 62) 1), zv 64 (.ld false 1 (.t 63)), zv 65 (.bin .lss .no (.t 64) (zc 0))]
def qxq : IC := zr [zv 66 (.ld true 3 (.t 4)), zn (.st 3 (.agg [.id, .id, (.sl 3)]) (.t 6) (.t 66))]
def qzq : IC := zr [zm 67 9, zm 68 10, zm 69 0, zv 70 (.fad (.t 4) 2), zv 71 (.ld false 1 (.t 70)), zm 72 10, zv 73 (.iad 3 (.t 71) (.t 72)), zv 74 (.ld true 3 (.t 73)), zm 75 2, zv 76 (.bin .add .no (.t 75) (zc 1)), zi 77 (.call (.c (.fn 78 [] [])) [((.t 69), .id), ((.t 74), (.agg [.id, .id, (.sl 3)])), ((.t 76), .id)]), zv 78 (.iad 3 (.t 67) (.t 68)), zn (.st 3 (.agg [.id, .id, (.sl 3)]) (.t 78) (.t 77))]
def qyl : IC := zr [zv 79 (.bin .add .no (.t 58) (zc 1)), zm 58 79]
def qxt : IC := (.seq qxv (.seq (.cond (.t 59) .skip (.exit 0)) (.seq (.block 1 (.seq qyy (.seq (.seq qxd (.cond (.t 65) (.seq qxq .ret) .skip)) qzq))) qyl)))
def qwp : IC := zr [zm 80 9, zv 81 (.fad (.t 4) 2), zn (.st 1 (.sl 3) (.t 81) (.t 80))]
def qya : IC := zr [zv 82 (.ld true 3 (.t 4)), zn (.st 3 (.agg [.id, .id, (.sl 3)]) (.t 6) (.t 82))]
def k0bl : IC := (.seq q2f (.seq (.seq q2k (.cond (.t 13) (.seq qbb8 (.seq q77 (.cond (.t 24) (.seq q9b (.seq (.seq q9u (.cond (.t 38) q1j .skip)) (.seq q5l .ret))) .skip))) .skip)) (.seq q04 (.seq q22 (.seq (.seq qzb (.block 0 (.loop qxt))) (.seq qwp (.seq qya .ret)))))))
@[go_sem] def s0bl : List (RV × Co) := [(.c true 3 6, (.agg [.id, .id, (.sl 3)]))]
theorem c0bl : cFun Try.prog 78 = some (83, k0bl, s0bl) := by kernel_rfl

def q0y : IC := zr [zi 1 (.box (.t 0)), zv 2 zf]
def q1n : IC := zr [zv 3 (.ld true 3 (.t 1)), zi 4 (.call (.c (.fn 112 [] [])) [((.t 3), (.agg [.id, .id, (.sl 3)]))]), zv 5 (.bin .leq .no (.t 4) (zc 4096)), zm 6 5, zw 6 true 7 (.ld true 3 (.t 1)), ⟨some (6, true), some 8, .call (.c (.fn 113 [] [])) [((.t 7), (.agg [.id, .id, (.sl 3)]))]⟩, zw 6 true 9 (.bin .leq .no (.t 8) (zc 100)), zv 10 (.pick (.t 6) (.t 9) (.c (.bool false))), zm 11 10, zw 11 true 12 (.ld true 3 (.t 1)), ⟨some (11, true), some 13, .call (.c (.fn 114 [] [])) [((.t 12), (.agg [.id, .id, (.sl 3)]))]⟩, zv 14 (.pick (.t 11) (.t 13) (.c (.bool false))), zm 2 14]
def k0cj : IC := (.seq q0y (.seq q1n .ret))
@[go_sem] def s0cj : List (RV × Co) := [(.t 2, .id)]
theorem c0cj : cFun Try.prog 79 = some (15, k0cj, s0cj) := by kernel_rfl

def qbb9 : IC := zr [zi 3 (.box (.t 1)), zv 4 (.mov (zc 0))]
def q3i : IC := zr [zv 9 (.fad (.t 3) 0), zv 10 (.ld false 1 (.t 9)), zv 11 (.bin .eql .no (.t 10) (.c (.str [])))]
def qba1 : IC := zr [zm 13 0, zv 14 (.fad (.t 3) 1), zv 15 (.ld false 1 (.t 14)), zi 16 (.call (.c (.fn 38 [] [])) [((.t 13), (.sl 4)), ((.t 15), .id)]), zm 12 16, zv 17 (.ext (.t 12) 0), zv 18 (.ext (.t 12) 1), zi 5 (.alo [(.str []), (.int .i64 0), .nils]), zn (.st 3 (.agg [.id, .id, (.sl 3)]) (.t 5) (.t 17)), zm 6 18]
def q14 : IC := zr [zm 19 6]
def q8y : IC := zr [zv 20 (.ld true 3 (.t 5)), zi 21 (.call (.c (.fn 112 [] [])) [((.t 20), (.agg [.id, .id, (.sl 3)]))]), zm 4 21]
def q6u : IC := zr [zv 4 (.mov (zc 1))]
def q7n : IC := zr [zv 7 (.mov (zc 1))]
def q6p : IC := zr [zv 8 (.mov (zc 0))]
def q1v : IC := zr [zm 22 8, zv 23 (.fad (.t 3) 2), zv 24 (.ld false 1 (.t 23)), zv 25 (.len false (.t 24)), zv 26 (.bin .lss .no (.t 22) (.t 25))]
def qys : IC := zr [zm 29 7, zm 30 0, zv 31 (.fad (.t 3) 2), zv 32 (.ld false 1 (.t 31)), zm 33 8, zv 34 (.iad 3 (.t 32) (.t 33)), zv 35 (.ld true 3 (.t 34)), zi 36 (.call (.c (.fn 80 [] [])) [((.t 30), (.sl 4)), ((.t 35), (.agg [.id, .id, (.sl 3)]))]), zv 37 (.bin .add .no (.t 29) (.t 36)), zm 7 37]
def qw7 : IC := zr [zm 27 8, zv 28 (.bin .add .no (.t 27) (zc 1)), zm 8 28]
def qbbj : IC := (.seq (.seq q1v (.cond (.t 26) .skip (.exit 0))) (.seq (.block 1 qys) qw7))
def qyi : IC := zr [zm 38 7, zm 4 38]
def k0cm : IC := (.seq qbb9 (.seq (.seq q3i (.cond (.t 11) (.seq qba1 (.seq (.seq q14 (.cond (.t 19) (.seq q8y .ret) .skip)) (.seq q6u .ret))) .skip)) (.seq q7n (.seq (.seq q6p (.block 0 (.loop qbbj))) (.seq qyi .ret)))))
@[go_sem] def s0cm : List (RV × Co) := [(.t 4, .id)]
theorem c0cm : cFun Try.prog 80 = some (39, k0cm, s0cm) := by kernel_rfl

def qba9 : IC := zr [zi 3 (.box (.t 1)), zi 4 (.alo [(.str []), (.int .i64 0), .nils])]
def q9c : IC := zr [zv 9 (.fad (.t 3) 0), zv 10 (.ld false 1 (.t 9)), zv 11 (.bin .eql .no (.t 10) (.c (.str [])))]
def qbbq : IC := zr [zm 13 0, zv 14 (.fad (.t 3) 1), zv 15 (.ld false 1 (.t 14)), zi 16 (.call (.c (.fn 38 [] [])) [((.t 13), (.sl 4)), ((.t 15), .id)]), zm 12 16, zv 17 (.ext (.t 12) 0), zv 18 (.ext (.t 12) 1), zi 5 (.alo [(.str []), (.int .i64 0), .nils]), zn (.st 3 (.agg [.id, .id, (.sl 3)]) (.t 5) (.t 17)), zm 6 18]
def qbap : IC := zr [zm 19 6]
def q12 : IC := zr [zv 20 (.ld true 3 (.t 5)), zn (.st 3 (.agg [.id, .id, (.sl 3)]) (.t 4) (.t 20))]
def q8f : IC := zr [zv 21 (.ld true 3 (.t 3)), zn (.st 3 (.agg [.id, .id, (.sl 3)]) (.t 4) (.t 21))]
def qbar : IC := zr [zv 7 (.mov (.c .nils))]
def q9v : IC := zr [zv 8 (.mov (zc 0))]
def q2e : IC := zr [zm 22 8, zv 23 (.fad (.t 3) 2), zv 24 (.ld false 1 (.t 23)), zv 25 (.len false (.t 24)), zv 26 (.bin .lss .no (.t 22) (.t 25))]
def qzo : IC := zr [zm 29 7, zm 30 0, zv 31 (.fad (.t 3) 2), zv 32 (.ld false 1 (.t 31)), zm 33 8, zv 34 (.iad 3 (.t 32) (.t 33)), zv 35 (.ld true 3 (.t 34)), zi 36 (.call (.c (.fn 81 [] [])) [((.t 30), (.sl 4)), ((.t 35), (.agg [.id, .id, (.sl 3)]))]), zv 37 (.bsl 3 [((.t 36), (.agg [.id, .id, (.sl 3)]))]), zi 38 (.app 3 (.agg [(.str []), (.int .i64 0), .nils]) 48 (.sl 3) (.t 29) (.t 37)), zm 7 38]
def qwv : IC := zr [zm 27 8, zv 28 (.bin .add .no (.t 27) (zc 1)), zm 8 28]
def q7j : IC := (.seq (.seq q2e (.cond (.t 26) .skip (.exit 0))) (.seq (.block 1 qzo) qwv))
def qyc : IC := zr [zm 39 7, zv 40 (.fad (.t 3) 2), zn (.st 1 (.sl 3) (.t 40) (.t 39))]
def qxb : IC := zr [zv 41 (.ld true 3 (.t 3)), zn (.st 3 (.agg [.id, .id, (.sl 3)]) (.t 4) (.t 41))]
def k0cn : IC := (.seq qba9 (.seq (.seq q9c (.cond (.t 11) (.seq qbbq (.seq (.seq qbap (.cond (.t 19) (.seq q12 .ret) .skip)) (.seq q8f .ret))) .skip)) (.seq qbar (.seq (.seq q9v (.block 0 (.loop q7j))) (.seq qyc (.seq qxb .ret))))))
@[go_sem] def s0cn : List (RV × Co) := [(.c true 3 4, (.agg [.id, .id, (.sl 3)]))]
theorem c0cn : cFun Try.prog 81 = some (42, k0cn, s0cn) := by kernel_rfl

def q6k : IC := zr [zv 4 (.mov (zc 0)), zv 5 zf]
def q68 : IC := zr [zm 6 0, zv 7 (.nck (.t 6)), zv 8 (.fad (.t 7) 0), zv 9 (.ld false 1 (.t 8)), zm 10 1, zi 11 (.call (.c (.fn 115 [] [])) [((.t 9), (.sl 4)), ((.t 10), .id), ((.c (.fn 116 [] [])), .id)]), zv 12 (.ext (.t 11) 0), zv 13 (.ext (.t 11) 1), zm 4 12, zm 5 13]
def k0bp : IC := (.seq q6k (.seq q68 .ret))
@[go_sem] def s0bp : List (RV × Co) := [(.t 4, .id), (.t 5, .id)]
theorem c0bp : cFun Try.prog 82 = some (14, k0bp, s0bp) := by kernel_rfl

def qbcj : IC := zr [zi 1 (.box (.t 0)), zi 2 (.alo [(.str []), (.int .i64 0), .nils])]
def q86 : IC := zr [zv 6 (.fad (.t 1) 2), zv 7 (.ld false 1 (.t 6)), zv 8 (.len false (.t 7)), zi 9 (.mks 3 (.agg [(.str []), (.int .i64 0), .nils]) 48 (.t 8) (.t 8)), zm 3 9]
def qbcr : IC := zr [zv 10 (.fad (.t 1) 2), zv 11 (.ld false 1 (.t 10)), zv 12 (.len false (.t 11)), zv 13 (.mov (zc 0))]
def q8n : IC := zr [zv 14 (.bin .lss .no (.t 13) (.t 12))]
def q71 : IC := zr [zm 15 13, zv 16 (.iad 3 (.t 11) (.t 13)), zv 17 (.ld true 3 (.t 16)), zi 5 (.alo [(.str []), (.int .i64 0), .nils]), zm 4 15, zn (.st 3 (.agg [.id, .id, (.sl 3)]) (.t 5) (.t 17))]
def qbbc : IC := zr [zm 18 3, zm 19 4, zv 20 (.ld true 3 (.t 5)), zi 21 (.call (.c (.fn 83 [] [])) [((.t 20), (.agg [.id, .id, (.sl 3)]))]), zv 22 (.iad 3 (.t 18) (.t 19)), zn (.st 3 (.agg [.id, .id, (.sl 3)]) (.t 22) (.t 21))]
def qbcs : IC := zr [zv 23 (.bin .add .no (.t 13) (zc 1)), zm 13 23]
def q5w : IC := (.seq q8n (.seq (.cond (.t 14) .skip (.exit 0)) (.seq (.block 1 (.seq q71 qbbc)) qbcs)))
def q3m : IC := zr [zm 24 3, zv 25 (.fad (.t 1) 2), zn (.st 1 (.sl 3) (.t 25) (.t 24))]
def qzy : IC := zr [zv 26 (.ld true 3 (.t 1)), zn (.st 3 (.agg [.id, .id, (.sl 3)]) (.t 2) (.t 26))]
def k0br : IC := (.seq qbcj (.seq q86 (.seq (.seq qbcr (.block 0 (.loop q5w))) (.seq q3m (.seq qzy .ret)))))
@[go_sem] def s0br : List (RV × Co) := [(.c true 3 2, (.agg [.id, .id, (.sl 3)]))]
theorem c0br : cFun Try.prog 83 = some (27, k0br, s0br) := by kernel_rfl

def qbi5 : IC := zr [zi 3 (.box (.t 0)), zv 6 zf]
def qbht : IC := zr [zm 9 2, zv 10 (.ld true 3 (.t 3)), zm 11 1, zi 12 (.call (.t 9) [((.t 10), (.agg [.id, .id, (.sl 3)])), ((.t 11), .id)]), zv 13 (.un .not (.t 12))]
def qbdg : IC := zr [zv 6 zf]
def qbfy : IC := zr [zv 14 (.fad (.t 3) 2), zv 15 (.ld false 1 (.t 14)), zv 16 (.len false (.t 15)), zv 17 (.mov (zc 0))]
def qbdc : IC := zr [zv 18 (.bin .lss .no (.t 17) (.t 16))]
def qbfs : IC := zr [zv 19 (.iad 3 (.t 15) (.t 17)), zv 20 (.ld true 3 (.t 19)), zi 8 (.alo [(.str []), (.int .i64 0), .nils]), zn (.st 3 (.agg [.id, .id, (.sl 3)]) (.t 8) (.t 20))]
def qbel : IC := zr [zv 21 (.ld true 3 (.t 8)), zm 22 1, zv 23 (.bin .add .no (.t 22) (zc 1)), zm 24 2, zi 25 (.call (.c (.fn 86 [] [])) [((.t 21), (.agg [.id, .id, (.sl 3)])), ((.t 23), .id), ((.t 24), .id)]), zv 26 (.un .not (.t 25))]
def qbes : IC := zr [zv 6 zf]
def qbfw : IC := zr [zv 27 (.bin .add .no (.t 17) (zc 1)), zm 17 27]
def qbgh : IC := (.seq qbdc (.seq (.cond (.t 18) .skip (.exit 0)) (.seq (.block 1 (.seq qbfs (.seq qbel (.cond (.t 26) (.seq qbes .ret) .skip)))) qbfw)))
def qbb3 : IC := zr [zv 6 (.mov (.c (.bool true)))]
def k0i : IC := (.seq qbi5 (.seq (.seq qbht (.cond (.t 13) (.seq qbdg .ret) .skip)) (.seq (.seq qbfy (.block 0 (.loop qbgh))) (.seq qbb3 .ret))))
@[go_sem] def s0i : List (RV × Co) := [(.t 6, .id)]
theorem c0i : cFun Try.prog 86 = some (28, k0i, s0i) := by kernel_rfl

def q9q : IC := zr [zi 3 (.box (.t 0)), zv 5 zf]
def qbau : IC := zr [zv 6 (.ld false 1 (.t 2)), zv 7 (.bin .add .no (.t 6) (zc 1)), zn (.st 1 .id (.t 2) (.t 7))]
def qba5 : IC := zr [zv 8 (.ld false 1 (.t 2)), zv 9 (.bin .leq .no (.t 8) (zc 4096)), zm 10 9, zw 10 true 11 (.mov (.t 1)), zw 10 true 12 (.bin .leq .no (.t 11) (zc 100)), zv 13 (.pick (.t 10) (.t 12) (.c (.bool false))), zm 14 13, zw 14 true 15 (.ld true 3 (.t 3)), ⟨some (14, true), some 16, .call (.c (.fn 88 [] [])) [((.t 15), (.agg [.id, .id, (.sl 3)]))]⟩, ⟨some (14, true), some 17, .call (.c (.fn 89 [] [])) [((.t 16), .id)]⟩, zv 18 (.pick (.t 14) (.t 17) (.c (.bool false))), zm 5 18]
def k0by : IC := (.seq q9q (.seq qbau (.seq qba5 .ret)))
@[go_sem] def s0by : List (RV × Co) := [(.t 5, .id)]
theorem c0by : cFun Try.prog 87 = some (19, k0by, s0by) := by kernel_rfl

def qbgp : IC := zr [zi 1 (.box (.t 0)), zi 2 (.alo [(.str []), (.int .i64 0), (.int .i64 0)])]
def qbf8 : IC := zr [zv 3 (.fad (.t 1) 0), zv 4 (.ld false 1 (.t 3)), zv 5 (.fad (.t 1) 1), zv 6 (.ld false 1 (.t 5)), zv 7 (.fad (.t 1) 2), zv 8 (.ld false 1 (.t 7)), zv 9 (.len false (.t 8)), zv 10 (.bld [(.str []), (.int .i64 0), (.int .i64 0)] [(0, 1, (.t 4)), (1, 1, (.t 6)), (2, 1, (.t 9))]), zn (.st 3 .id (.t 2) (.t 10))]
def k0c : IC := (.seq qbgp (.seq qbf8 .ret))
@[go_sem] def s0c : List (RV × Co) := [(.c true 3 2, .id)]
theorem c0c : cFun Try.prog 88 = some (11, k0c, s0c) := by kernel_rfl

def qbds : IC := zr [zi 1 (.box (.t 0)), zv 2 zf]
def qbh8 : IC := zr [zv 4 (.fad (.t 1) 0), zv 5 (.ld false 1 (.t 4)), zv 6 (.bin .eql .no (.t 5) (.c (.str []))), zm 3 6]
def qbjc : IC := zr [zv 7 (.fad (.t 1) 2), zv 8 (.ld false 1 (.t 7)), zv 9 (.bin .eql .no (.t 8) (zc 0)), zm 2 9]
def qbhz : IC := zr [zv 11 (.fad (.t 1) 0), zv 12 (.ld false 1 (.t 11)), zv 13 (.bin .eql .no (.t 12) (.c (.str [45, 62]))), zm 10 13]
def qbfr : IC := zr [zv 14 (.ld true 3 (.t 1)), zv 15 (.bld [(.str []), (.int .i64 0), (.int .i64 0)] [(0, 1, (.c (.str [45, 62]))), (1, 1, (zc 0)), (2, 1, (zc 2))]), zv 16 (.bin .eql (.cells [.str, (.int .i64), (.int .i64)]) (.t 14) (.t 15)), zm 2 16]
def qbii : IC := zr [zv 18 (.fad (.t 1) 0), zv 19 (.ld false 1 (.t 18)), zi 20 (.call (.c (.fn 119 [] [])) [((.t 19), .id)]), zm 17 20]
def qbhw : IC := zr [zv 21 (.ld true 3 (.t 1)), zv 22 (.fad (.t 1) 0), zv 23 (.ld false 1 (.t 22)), zv 24 (.bld [(.str []), (.int .i64 0), (.int .i64 0)] [(0, 1, (.t 23))]), zv 25 (.bin .eql (.cells [.str, (.int .i64), (.int .i64)]) (.t 21) (.t 24)), zm 2 25]
def qbh7 : IC := zr [zv 26 (.fad (.t 1) 1), zv 27 (.ld false 1 (.t 26)), zv 28 (.bin .eql .no (.t 27) (zc 0)), zm 29 28, zw 29 true 30 (.fad (.t 1) 0), zw 29 true 31 (.ld false 1 (.t 30)), ⟨some (29, true), some 32, .call (.c (.fn 72 [] [])) [((.t 31), .id)]⟩, zv 33 (.pick (.t 29) (.t 32) (.c (.bool false))), zm 2 33]
def k0h : IC := (.seq qbds (.seq (.block 0 (.seq qbh8 (.cond (.t 3) (.seq qbjc .ret) (.seq qbhz (.cond (.t 10) (.seq qbfr .ret) (.seq qbii (.cond (.t 17) (.seq qbhw .ret) .skip))))))) (.seq qbh7 .ret)))
@[go_sem] def s0h : List (RV × Co) := [(.t 2, .id)]
theorem c0h : cFun Try.prog 89 = some (34, k0h, s0h) := by kernel_rfl

def qbi2 : IC := zr [zv 4 (.mov (zc 0))]
def qbc9 : IC := zr [zm 6 0, zv 7 (.len false (.t 6)), zv 8 (.mov (zc 0))]
def qbfl : IC := zr [zv 9 (.bin .lss .no (.t 8) (.t 7))]
def qbhb : IC := zr [zm 10 8, zm 5 10]
def qbh2 : IC := zr [zm 11 1, zm 12 0, zm 13 5, zv 14 (.iad 1 (.t 12) (.t 13)), zv 15 (.ld false 1 (.t 14)), zv 16 (.bin .eql .no (.t 11) (.t 15))]
def qbgd : IC := zr [zm 17 5, zm 4 17]
def qbgl : IC := zr [zv 18 (.bin .add .no (.t 8) (zc 1)), zm 8 18]
def qbdy : IC := (.seq qbfl (.seq (.cond (.t 9) .skip (.exit 0)) (.seq (.block 1 (.seq qbhb (.seq qbh2 (.cond (.t 16) (.seq qbgd .ret) .skip)))) qbgl)))
def qbc4 : IC := zr [zv 4 (.mov (zc (-1)))]
def k0a : IC := (.seq qbi2 (.seq (.seq qbc9 (.block 0 (.loop qbdy))) (.seq qbc4 .ret)))
@[go_sem] def s0a : List (RV × Co) := [(.t 4, .id)]
theorem c0a : cFun Try.prog 100 = some (19, k0a, s0a) := by kernel_rfl

def qbhf : IC := zr [zv 2 zf]
def qbgv : IC := zr [zm 3 0, zv 4 (.bin .geq .no (.t 3) (.c (.int .u8 65))), zm 5 4, zw 5 true 6 (.mov (.t 0)), zw 5 true 7 (.bin .leq .no (.t 6) (.c (.int .u8 90))), zv 8 (.pick (.t 5) (.t 7) (.c (.bool false))), zm 2 8]
def k0p : IC := (.seq qbhf (.seq qbgv .ret))
@[go_sem] def s0p : List (RV × Co) := [(.t 2, .id)]
theorem c0p : cFun Try.prog 106 = some (9, k0p, s0p) := by kernel_rfl

def qbeh : IC := zr [zv 2 zf]
def qbdt : IC := zr [zm 5 0, zv 6 (.len true (.t 5)), zv 7 (.mov (zc 0))]
def qbef : IC := zr [zv 8 (.bin .lss .no (.t 7) (.t 6))]
def qbec : IC := zr [zm 9 7, zm 3 9]
def qbd1 : IC := zr [zm 10 0, zm 11 3, zv 12 (.idx (.t 10) (.t 11)), zm 4 12]
def qbgy : IC := zr [zm 13 4, zi 14 (.call (.c (.fn 128 [] [])) [((.t 13), .id)]), zv 15 (.un .not (.t 14)), zm 16 15, zw 16 true 17 (.mov (.t 4)), ⟨some (16, true), some 18, .call (.c (.fn 106 [] [])) [((.t 17), .id)]⟩, zw 16 true 19 (.un .not (.t 18)), zv 20 (.pick (.t 16) (.t 19) (.c (.bool false))), zm 21 20, zw 21 true 22 (.mov (.t 4)), zw 21 true 23 (.bin .lss .no (.t 22) (.c (.int .u8 48))), zw 21 true 24 (.mov (.t 23)), zw 24 false 25 (.mov (.t 4)), zw 24 false 26 (.bin .gtr .no (.t 25) (.c (.int .u8 57))), zw 21 true 27 (.pick (.t 24) (.c (.bool true)) (.t 26)), zv 28 (.pick (.t 21) (.t 27) (.c (.bool false))), zm 29 28, zw 29 true 30 (.mov (.t 4)), zw 29 true 31 (.bin .neq .no (.t 30) (.c (.int .u8 39))), zv 32 (.pick (.t 29) (.t 31) (.c (.bool false)))]
def qbfe : IC := zr [zv 2 zf]
def qbev : IC := zr [zv 33 (.bin .add .no (.t 7) (zc 1)), zm 7 33]
def qbiy : IC := (.seq qbef (.seq (.cond (.t 8) .skip (.exit 0)) (.seq (.block 1 (.seq qbec (.seq qbd1 (.seq qbgy (.cond (.t 32) (.seq qbfe .ret) .skip))))) qbev)))
def q60 : IC := zr [zv 2 (.mov (.c (.bool true)))]
def k0t : IC := (.seq qbeh (.seq (.seq qbdt (.block 0 (.loop qbiy))) (.seq q60 .ret)))
@[go_sem] def s0t : List (RV × Co) := [(.t 2, .id)]
theorem c0t : cFun Try.prog 107 = some (34, k0t, s0t) := by kernel_rfl

def q3z : IC := zr [zi 1 (.box (.t 0)), zv 2 (.mov (.c (.str [])))]
def qbbr : IC := zr [zv 6 (.fad (.t 1) 0), zv 7 (.ld false 1 (.t 6)), zv 8 (.bin .eql .no (.t 7) (.c (.str [45, 62])))]
def q7o : IC := .drw [zp (zv 9 (.fad (.t 1) 2)), zp (zv 10 (.ld false 1 (.t 9))), zp (zv 11 (.iad 3 (.t 10) (zc 0))), zp (zv 12 (.ld true 3 (.t 11))), zp (zv 13 (.fad (.t 1) 2)), zp (zv 14 (.ld false 1 (.t 13))), zp (zv 15 (.iad 3 (.t 14) (zc 0))), zp (zv 16 (.fad (.t 15) 0)), zp (zv 17 (.ld false 1 (.t 16))), (zv 18 (.bin .eql .no (.t 17) (.c (.str [45, 62]))), []), (zi 19 (.call (.c (.fn 129 [] [])) [((.t 12), (.agg [.id, .id, (.sl 3)])), ((.t 18), .id)]), []), (zv 20 (.bin .add .no (.t 19) (.c (.str [32, 45, 62, 32]))), []), zp (zv 21 (.fad (.t 1) 2)), (zv 22 (.ld false 1 (.t 21)), [10]), zp (zv 23 (.iad 3 (.t 22) (zc 1))), (zv 24 (.ld true 3 (.t 23)), [10]), (zi 25 (.call (.c (.fn 109 [] [])) [((.t 24), (.agg [.id, .id, (.sl 3)]))]), []), zp (zv 26 (.bin .add .no (.t 20) (.t 25))), zp (zm 2 26)]
def q2x : IC := zr [zi 3 (.bld 125 5)]
def q9t : IC := zr [zv 27 (.ld true 3 (.t 1)), zi 28 (.call (.c (.fn 88 [] [])) [((.t 27), (.agg [.id, .id, (.sl 3)]))]), zi 29 (.call (.c (.fn 130 [] [])) [((.t 28), .id)]), zi 30 (.call (.c (.fn 102 [] [])) [((.t 3), (.agg [.id, (.sl 1)])), ((.t 29), .id)])]
def q1b : IC := zr [zv 31 (.fad (.t 1) 2), zv 32 (.ld false 1 (.t 31)), zv 33 (.len false (.t 32)), zv 34 (.mov (zc 0))]
def q7l : IC := zr [zv 35 (.bin .lss .no (.t 34) (.t 33))]
def q34 : IC := zr [zv 36 (.iad 3 (.t 32) (.t 34)), zv 37 (.ld true 3 (.t 36)), zi 5 (.alo [(.str []), (.int .i64 0), .nils]), zn (.st 3 (.agg [.id, .id, (.sl 3)]) (.t 5) (.t 37))]
def q4h : IC := zr [zv 38 (.ld true 3 (.t 5)), zv 39 (.fad (.t 5) 2), zv 40 (.ld false 1 (.t 39)), zv 41 (.len false (.t 40)), zv 42 (.bin .gtr .no (.t 41) (zc 0)), zi 43 (.call (.c (.fn 129 [] [])) [((.t 38), (.agg [.id, .id, (.sl 3)])), ((.t 42), .id)]), zv 44 (.bin .add .no (.c (.str [32])) (.t 43)), zi 45 (.call (.c (.fn 102 [] [])) [((.t 3), (.agg [.id, (.sl 1)])), ((.t 44), .id)])]
def qwh : IC := zr [zv 46 (.bin .add .no (.t 34) (zc 1)), zm 34 46]
def q59 : IC := (.seq q7l (.seq (.cond (.t 35) .skip (.exit 0)) (.seq (.block 1 (.seq q34 q4h)) qwh)))
def qv1 : IC := zr [zi 47 (.call (.c (.fn 103 [] [])) [((.t 3), (.agg [.id, (.sl 1)]))]), zm 2 47]
def k0bw : IC := (.seq q3z (.seq (.seq qbbr (.cond (.t 8) (.seq q7o .ret) .skip)) (.seq q2x (.seq q9t (.seq (.seq q1b (.block 0 (.loop q59))) (.seq qv1 .ret))))))
@[go_sem] def s0bw : List (RV × Co) := [(.t 2, .id)]
theorem c0bw : cFun Try.prog 109 = some (48, k0bw, s0bw) := by kernel_rfl

def qbbo : IC := zr [zi 1 (.box (.t 0)), zv 2 (.mov (zc 0))]
def q1l : IC := zr [zi 3 (.alo [(.int .i64 0)]), zn (.st 1 .id (.t 3) (zc 0))]
def q93 : IC := zr [zv 4 (.ld true 3 (.t 1)), zv 5 (.mfn 131 [] [(.t 3)]), zi 6 (.call (.c (.fn 86 [] [])) [((.t 4), (.agg [.id, .id, (.sl 3)])), ((zc 1), .id), ((.t 5), .id)])]
def q6g : IC := zr [zv 7 (.ld false 1 (.t 3)), zm 2 7]
def k0cc : IC := (.seq qbbo (.seq q1l (.seq q93 (.seq q6g .ret))))
@[go_sem] def s0cc : List (RV × Co) := [(.t 2, .id)]
theorem c0cc : cFun Try.prog 110 = some (8, k0cc, s0cc) := by kernel_rfl

def qba4 : IC := zr [zi 1 (.box (.t 0)), zv 2 (.mov (zc 0))]
def qbci : IC := zr [zi 3 (.alo [(.int .i64 0)]), zn (.st 1 .id (.t 3) (zc 0))]
def q5c : IC := zr [zv 4 (.ld true 3 (.t 1)), zv 5 (.mfn 132 [] [(.t 3)]), zi 6 (.call (.c (.fn 86 [] [])) [((.t 4), (.agg [.id, .id, (.sl 3)])), ((zc 1), .id), ((.t 5), .id)])]
def q8d : IC := zr [zv 7 (.ld false 1 (.t 3)), zm 2 7]
def k0cd : IC := (.seq qba4 (.seq qbci (.seq q5c (.seq q8d .ret))))
@[go_sem] def s0cd : List (RV × Co) := [(.t 2, .id)]
theorem c0cd : cFun Try.prog 111 = some (8, k0cd, s0cd) := by kernel_rfl

def qbag : IC := zr [zi 1 (.box (.t 0)), zv 2 (.mov (zc 0))]
def q43 : IC := zr [zv 3 (.mov (zc 1))]
def q7i : IC := zr [zv 4 (.mov (zc 0))]
def q97 : IC := zr [zm 5 4, zv 6 (.fad (.t 1) 2), zv 7 (.ld false 1 (.t 6)), zv 8 (.len false (.t 7)), zv 9 (.bin .lss .no (.t 5) (.t 8))]
def q6x : IC := zr [zm 12 3, zv 13 (.fad (.t 1) 2), zv 14 (.ld false 1 (.t 13)), zm 15 4, zv 16 (.iad 3 (.t 14) (.t 15)), zv 17 (.ld true 3 (.t 16)), zi 18 (.call (.c (.fn 112 [] [])) [((.t 17), (.agg [.id, .id, (.sl 3)]))]), zv 19 (.bin .add .no (.t 12) (.t 18)), zm 3 19]
def q1e : IC := zr [zm 10 4, zv 11 (.bin .add .no (.t 10) (zc 1)), zm 4 11]
def q4i : IC := (.seq (.seq q97 (.cond (.t 9) .skip (.exit 0))) (.seq (.block 1 q6x) q1e))
def q01 : IC := zr [zm 20 3, zm 2 20]
def k0ce : IC := (.seq qbag (.seq q43 (.seq (.seq q7i (.block 0 (.loop q4i))) (.seq q01 .ret))))
@[go_sem] def s0ce : List (RV × Co) := [(.t 2, .id)]
theorem c0ce : cFun Try.prog 112 = some (21, k0ce, s0ce) := by kernel_rfl

def q16 : IC := zr [zi 1 (.box (.t 0)), zv 2 (.mov (zc 0))]
def q53 : IC := zr [zv 3 (.mov (zc 0))]
def q73 : IC := zr [zv 4 (.mov (zc 0))]
def q8x : IC := zr [zm 5 4, zv 6 (.fad (.t 1) 2), zv 7 (.ld false 1 (.t 6)), zv 8 (.len false (.t 7)), zv 9 (.bin .lss .no (.t 5) (.t 8))]
def q5o : IC := zr [zm 12 3, zv 13 (.fad (.t 1) 2), zv 14 (.ld false 1 (.t 13)), zm 15 4, zv 16 (.iad 3 (.t 14) (.t 15)), zv 17 (.ld true 3 (.t 16)), zi 18 (.call (.c (.fn 113 [] [])) [((.t 17), (.agg [.id, .id, (.sl 3)]))]), zv 19 (.mm true (.t 12) (.t 18)), zm 3 19]
def qbaa : IC := zr [zm 10 4, zv 11 (.bin .add .no (.t 10) (zc 1)), zm 4 11]
def q42 : IC := (.seq (.seq q8x (.cond (.t 9) .skip (.exit 0))) (.seq (.block 1 q5o) qbaa))
def q7b : IC := zr [zm 20 3, zv 21 (.bin .add .no (.t 20) (zc 1)), zm 2 21]
def k0cf : IC := (.seq q16 (.seq q53 (.seq (.seq q73 (.block 0 (.loop q42))) (.seq q7b .ret))))
@[go_sem] def s0cf : List (RV × Co) := [(.t 2, .id)]
theorem c0cf : cFun Try.prog 113 = some (22, k0cf, s0cf) := by kernel_rfl

def q40 : IC := zr [zi 1 (.box (.t 0)), zv 2 zf]
def qbba : IC := zr [zv 3 (.mov (zc 0))]
def q21 : IC := zr [zm 5 3, zv 6 (.fad (.t 1) 2), zv 7 (.ld false 1 (.t 6)), zv 8 (.len false (.t 7)), zv 9 (.bin .lss .no (.t 5) (.t 8))]
def q0z : IC := zr [zv 12 (.fad (.t 1) 2), zv 13 (.ld false 1 (.t 12)), zm 14 3, zv 15 (.iad 3 (.t 13) (.t 14)), zv 16 (.ld true 3 (.t 15)), zi 17 (.call (.c (.fn 114 [] [])) [((.t 16), (.agg [.id, .id, (.sl 3)]))]), zv 18 (.un .not (.t 17))]
def q67 : IC := zr [zv 2 zf]
def q9p : IC := zr [zm 10 3, zv 11 (.bin .add .no (.t 10) (zc 1)), zm 3 11]
def q1w : IC := (.seq (.seq q21 (.cond (.t 9) .skip (.exit 0))) (.seq (.block 1 (.seq q0z (.cond (.t 18) (.seq q67 .ret) .skip))) q9p))
def q88 : IC := zr [zv 19 (.fad (.t 1) 2), zv 20 (.ld false 1 (.t 19)), zv 21 (.len false (.t 20)), zm 4 21]
def q1m : IC := zr [zv 23 (.fad (.t 1) 0), zv 24 (.ld false 1 (.t 23)), zv 25 (.bin .eql .no (.t 24) (.c (.str []))), zm 22 25]
def qyr : IC := zr [zm 26 4, zv 27 (.bin .eql .no (.t 26) (zc 0)), zm 2 27]
def qwk : IC := zr [zv 29 (.fad (.t 1) 0), zv 30 (.ld false 1 (.t 29)), zv 31 (.bin .eql .no (.t 30) (.c (.str [45, 62]))), zm 28 31]
def qw9 : IC := zr [zm 32 4, zv 33 (.bin .eql .no (.t 32) (zc 2)), zm 34 33, zw 34 true 35 (.fad (.t 1) 1), zw 34 true 36 (.ld false 1 (.t 35)), zw 34 true 37 (.bin .eql .no (.t 36) (zc 0)), zv 38 (.pick (.t 34) (.t 37) (.c (.bool false))), zm 2 38]
def qxm : IC := zr [zv 40 (.fad (.t 1) 0), zv 41 (.ld false 1 (.t 40)), zi 42 (.call (.c (.fn 133 [] [])) [((.t 41), .id)]), zm 39 42]
def qxx : IC := zr [zm 43 4, zv 44 (.bin .eql .no (.t 43) (zc 0)), zm 45 44, zw 45 true 46 (.fad (.t 1) 1), zw 45 true 47 (.ld false 1 (.t 46)), zw 45 true 48 (.bin .eql .no (.t 47) (zc 0)), zv 49 (.pick (.t 45) (.t 48) (.c (.bool false))), zm 2 49]
def qz1 : IC := zr [zv 50 (.fad (.t 1) 0), zv 51 (.ld false 1 (.t 50)), zi 52 (.call (.c (.fn 125 [] [])) [((.t 51), .id)]), zm 53 52, zw 53 true 54 (.fad (.t 1) 1), zw 53 true 55 (.ld false 1 (.t 54)), zw 53 true 56 (.bin .eql .no (.t 55) (zc 0)), zv 57 (.pick (.t 53) (.t 56) (.c (.bool false))), zm 2 57]
def k0cg : IC := (.seq q40 (.seq (.seq qbba (.block 0 (.loop q1w))) (.seq q88 (.seq (.block 2 (.seq q1m (.cond (.t 22) (.seq qyr .ret) (.seq qwk (.cond (.t 28) (.seq qw9 .ret) (.seq qxm (.cond (.t 39) (.seq qxx .ret) .skip))))))) (.seq qz1 .ret)))))
@[go_sem] def s0cg : List (RV × Co) := [(.t 2, .id)]
theorem c0cg : cFun Try.prog 114 = some (58, k0cg, s0cg) := by kernel_rfl

def q4k : IC := zr [zv 6 (.mov (zc 0)), zv 7 zf]
def q5b : IC := zr [zm 12 0, zv 13 (.len false (.t 12)), zm 8 13]
def qbcg : IC := zr [zm 14 8, zv 9 (.mov (zc 0)), zm 10 14]
def q8l : IC := zr [zm 15 9, zm 16 10, zv 17 (.bin .lss .no (.t 15) (.t 16))]
def q24 : IC := zr [zm 18 9, zm 19 10, zv 20 (.bin .add .no (.t 18) (.t 19)), zv 21 (.cvi .u64 (.t 20)), zv 22 (.bin .shr .no (.t 21) (.c (.int .u64 1))), zv 23 (.cvi .i64 (.t 22)), zm 11 23]
def q5d : IC := zr [zm 24 2, zm 25 0, zm 26 11, zv 27 (.iad 4 (.t 25) (.t 26)), zv 28 (.ld true 4 (.t 27)), zm 29 1, zi 30 (.call (.t 24) [((.t 28), (.agg [.id, .id, .id, (.sl 3)])), ((.t 29), .id)]), zv 31 (.bin .lss .no (.t 30) (zc 0))]
def qbat : IC := zr [zm 32 11, zv 33 (.bin .add .no (.t 32) (zc 1)), zm 9 33]
def q1u : IC := zr [zm 34 11, zm 10 34]
def q4w : IC := (.seq (.seq q8l (.cond (.t 17) .skip (.exit 0))) (.block 1 (.seq q24 (.seq q5d (.cond (.t 31) qbat q1u)))))
def qwl : IC := zr [zm 35 9, zm 36 9, zm 37 8, zv 38 (.bin .lss .no (.t 36) (.t 37)), zm 39 38, zw 39 true 40 (.mov (.t 2)), zw 39 true 41 (.mov (.t 0)), zw 39 true 42 (.mov (.t 9)), zw 39 true 43 (.iad 4 (.t 41) (.t 42)), zw 39 true 44 (.ld true 4 (.t 43)), zw 39 true 45 (.mov (.t 1)), ⟨some (39, true), some 46, .call (.t 40) [((.t 44), (.agg [.id, .id, .id, (.sl 3)])), ((.t 45), .id)]⟩, zw 39 true 47 (.bin .eql .no (.t 46) (zc 0)), zv 48 (.pick (.t 39) (.t 47) (.c (.bool false))), zm 6 35, zm 7 48]
def k0bo : IC := (.seq q4k (.seq q5b (.seq qbcg (.seq (.block 0 (.loop q4w)) (.seq qwl .ret)))))
@[go_sem] def s0bo : List (RV × Co) := [(.t 6, .id), (.t 7, .id)]
theorem c0bo : cFun Try.prog 115 = some (49, k0bo, s0bo) := by kernel_rfl

def qbah : IC := zr [zi 2 (.box (.t 0)), zv 4 (.mov (zc 0))]
def q49 : IC := zr [zv 6 (.fad (.t 2) 0), zv 7 (.ld false 1 (.t 6)), zm 8 1, zv 9 (.bin .lss .no (.t 7) (.t 8)), zm 5 9]
def q5r : IC := zr [zv 4 (.mov (zc (-1)))]
def q3k : IC := zr [zv 11 (.fad (.t 2) 0), zv 12 (.ld false 1 (.t 11)), zm 13 1, zv 14 (.bin .gtr .no (.t 12) (.t 13)), zm 10 14]
def qbb7 : IC := zr [zv 4 (.mov (zc 1))]
def q2m : IC := zr [zv 4 (.mov (zc 0))]
def k0bq : IC := (.seq qbah (.seq (.block 0 (.seq q49 (.cond (.t 5) (.seq q5r .ret) (.seq q3k (.cond (.t 10) (.seq qbb7 .ret) .skip))))) (.seq q2m .ret)))
@[go_sem] def s0bq : List (RV × Co) := [(.t 4, .id)]
theorem c0bq : cFun Try.prog 116 = some (15, k0bq, s0bq) := by kernel_rfl

def qbgx : IC := zr [zv 2 zf]
def qbjb : IC := zr [zm 5 0, zi 6 (.call (.c (.fn 135 [] [])) [((.t 5), .id), ((.c (.str [33])), .id)]), zv 7 (.un .not (.t 6))]
def qbhg : IC := zr [zv 2 zf]
def qbiw : IC := zr [zm 9 0, zv 10 (.sls (.t 9) (some (zc 1)) none), zi 11 (.call (.c (.fn 136 [] [])) [((.t 10), .id)]), zm 8 11, zv 12 (.ext (.t 8) 0), zv 13 (.ext (.t 8) 1), zm 3 12, zm 4 13]
def qbim : IC := .drw [zp (zm 14 4), zp (zv 15 (.bin .eql .no (.t 14) (zc 0))), zp (zm 16 15), zp (zw 16 true 17 (.mov (.t 3))), (⟨some (16, true), some 18, .call (.c (.fn 137 [] [])) [((.t 17), .id)]⟩, []), zp (zw 16 true 19 (.mov (.t 0))), zp (zw 16 true 20 (.sls (.t 19) (some (zc 1)) none)), zp (zw 16 true 21 (.bin .eql .no (.t 18) (.t 20))), zp (zv 22 (.pick (.t 16) (.t 21) (.c (.bool false)))), zp (zm 2 22)]
def k0f : IC := (.seq qbgx (.seq (.seq qbjb (.cond (.t 7) (.seq qbhg .ret) .skip)) (.seq qbiw (.seq qbim .ret))))
@[go_sem] def s0f : List (RV × Co) := [(.t 2, .id)]
theorem c0f : cFun Try.prog 119 = some (23, k0f, s0f) := by kernel_rfl

def qbdu : IC := zr [zv 2 zf]
def qbe9 : IC := zr [zm 3 0, zv 4 (.bin .neq .no (.t 3) (.c (.str []))), zm 5 4, zw 5 true 6 (.mov (.t 0)), zw 5 true 7 (.idx (.t 6) (zc 0)), ⟨some (5, true), some 8, .call (.c (.fn 141 [] [])) [((.t 7), .id)]⟩, zv 9 (.pick (.t 5) (.t 8) (.c (.bool false))), zm 10 9, zw 10 true 11 (.mov (.t 0)), ⟨some (10, true), some 12, .call (.c (.fn 142 [] [])) [((.t 11), .id)]⟩, zv 13 (.pick (.t 10) (.t 12) (.c (.bool false))), zm 2 13]
def k0w : IC := (.seq qbdu (.seq qbe9 .ret))
@[go_sem] def s0w : List (RV × Co) := [(.t 2, .id)]
theorem c0w : cFun Try.prog 125 = some (14, k0w, s0w) := by kernel_rfl

def qbfv : IC := zr [zv 2 (.mov (.c (.str [])))]
def qbex : IC := zr [zm 5 0, zi 6 (.call (.c (.fn 143 [] [])) [((.t 5), .id)]), zm 3 6]
def qbjf : IC := zr [zv 4 (.mov (.c (.str [])))]
def qbcx : IC := zr [zm 7 3, zv 8 (.bin .gtr .no (.t 7) (.c (.int .u64 9)))]
def qbdv : IC := zr [zm 9 3, zv 10 (.bin .rem .no (.t 9) (.c (.int .u64 10))), zv 11 (.bin .add .no (.c (.int .u64 48)) (.t 10)), zv 12 (.cvi .u8 (.t 11)), zv 13 (.bsl 1 [((.t 12), .id)]), zv 14 (.cbs (.t 13)), zm 15 4, zv 16 (.bin .add .no (.t 14) (.t 15)), zm 4 16]
def qbg0 : IC := zr [zm 17 3, zv 18 (.bin .quo .no (.t 17) (.c (.int .u64 10))), zm 3 18]
def qbc2 : IC := (.seq (.seq qbcx (.cond (.t 8) .skip (.exit 0))) (.block 1 (.seq qbdv qbg0)))
def qbf3 : IC := zr [zm 19 3, zv 20 (.bin .add .no (.c (.int .u64 48)) (.t 19)), zv 21 (.cvi .u8 (.t 20)), zv 22 (.bsl 1 [((.t 21), .id)]), zv 23 (.cbs (.t 22)), zm 24 4, zv 25 (.bin .add .no (.t 23) (.t 24)), zm 4 25]
def qbhx : IC := zr [zm 26 0, zv 27 (.bin .lss .no (.t 26) (zc 0))]
def q6s : IC := zr [zm 28 4, zv 29 (.bin .add .no (.c (.str [45])) (.t 28)), zm 2 29]
def q7y : IC := zr [zm 30 4, zm 2 30]
def k0y : IC := (.seq qbfv (.seq qbex (.seq qbjf (.seq (.block 0 (.loop qbc2)) (.seq qbf3 (.seq (.seq qbhx (.cond (.t 27) (.seq q6s .ret) .skip)) (.seq q7y .ret)))))))
@[go_sem] def s0y : List (RV × Co) := [(.t 2, .id)]
theorem c0y : cFun Try.prog 127 = some (31, k0y, s0y) := by kernel_rfl

def qbd8 : IC := zr [zv 2 zf]
def qbfd : IC := zr [zm 3 0, zv 4 (.bin .geq .no (.t 3) (.c (.int .u8 97))), zm 5 4, zw 5 true 6 (.mov (.t 0)), zw 5 true 7 (.bin .leq .no (.t 6) (.c (.int .u8 122))), zv 8 (.pick (.t 5) (.t 7) (.c (.bool false))), zm 9 8, zw 9 false 10 (.mov (.t 0)), zw 9 false 11 (.bin .eql .no (.t 10) (.c (.int .u8 95))), zv 12 (.pick (.t 9) (.c (.bool true)) (.t 11)), zm 2 12]
def k0n : IC := (.seq qbd8 (.seq qbfd .ret))
@[go_sem] def s0n : List (RV × Co) := [(.t 2, .id)]
theorem c0n : cFun Try.prog 128 = some (13, k0n, s0n) := by kernel_rfl

def qbch : IC := zr [zi 2 (.box (.t 0)), zv 4 (.mov (.c (.str [])))]
def q1p : IC := zr [zm 5 1]
def qbct : IC := zr [zv 6 (.ld true 3 (.t 2)), zi 7 (.call (.c (.fn 109 [] [])) [((.t 6), (.agg [.id, .id, (.sl 3)]))]), zv 8 (.bin .add .no (.c (.str [40])) (.t 7)), zv 9 (.bin .add .no (.t 8) (.c (.str [41]))), zm 4 9]
def q4y : IC := zr [zv 10 (.ld true 3 (.t 2)), zi 11 (.call (.c (.fn 109 [] [])) [((.t 10), (.agg [.id, .id, (.sl 3)]))]), zm 4 11]
def k0bv : IC := (.seq qbch (.seq (.seq q1p (.cond (.t 5) (.seq qbct .ret) .skip)) (.seq q4y .ret)))
@[go_sem] def s0bv : List (RV × Co) := [(.t 4, .id)]
theorem c0bv : cFun Try.prog 129 = some (12, k0bv, s0bv) := by kernel_rfl

def q4s : IC := zr [zi 1 (.box (.t 0)), zv 2 (.mov (.c (.str [])))]
def qbav : IC := zr [zv 4 (.fad (.t 1) 0), zv 5 (.ld false 1 (.t 4)), zv 6 (.bin .neq .no (.t 5) (.c (.str []))), zm 3 6]
def q74 : IC := zr [zv 7 (.fad (.t 1) 0), zv 8 (.ld false 1 (.t 7)), zm 2 8]
def q05 : IC := zr [zv 10 (.fad (.t 1) 1), zv 11 (.ld false 1 (.t 10)), zv 12 (.bin .geq .no (.t 11) (zc 0)), zm 9 12]
def q09 : IC := zr [zv 13 (.fad (.t 1) 1), zv 14 (.ld false 1 (.t 13)), zi 15 (.call (.c (.fn 144 [] [])) [((.t 14), .id)]), zm 2 15]
def q1x : IC := zr [zv 16 (.fad (.t 1) 1), zv 17 (.ld false 1 (.t 16)), zv 18 (.bin .sub .no (zc (-1)) (.t 17)), zi 19 (.call (.c (.fn 137 [] [])) [((.t 18), .id)]), zv 20 (.bin .add .no (.c (.str [63])) (.t 19)), zm 2 20]
def k0bu : IC := (.seq q4s (.seq (.block 0 (.seq qbav (.cond (.t 3) (.seq q74 .ret) (.seq q05 (.cond (.t 9) (.seq q09 .ret) .skip))))) (.seq q1x .ret)))
@[go_sem] def s0bu : List (RV × Co) := [(.t 2, .id)]
theorem c0bu : cFun Try.prog 130 = some (21, k0bu, s0bu) := by kernel_rfl

def qbcp : IC := zr [zi 3 (.box (.t 0)), zv 5 zf]
def q7u : IC := zr [zv 6 (.ld false 1 (.t 2)), zv 7 (.bin .add .no (.t 6) (zc 1)), zn (.st 1 .id (.t 2) (.t 7))]
def q3p : IC := zr [zv 5 (.mov (.c (.bool true)))]
def k0bz : IC := (.seq qbcp (.seq q7u (.seq q3p .ret)))
@[go_sem] def s0bz : List (RV × Co) := [(.t 5, .id)]
theorem c0bz : cFun Try.prog 131 = some (8, k0bz, s0bz) := by kernel_rfl

def q36 : IC := zr [zi 3 (.box (.t 0)), zv 5 zf]
def qbb4 : IC := zr [zv 6 (.ld false 1 (.t 2)), zm 7 1, zv 8 (.mm true (.t 6) (.t 7)), zn (.st 1 .id (.t 2) (.t 8))]
def q8t : IC := zr [zv 5 (.mov (.c (.bool true)))]
def k0ca : IC := (.seq q36 (.seq qbb4 (.seq q8t .ret)))
@[go_sem] def s0ca : List (RV × Co) := [(.t 5, .id)]
theorem c0ca : cFun Try.prog 132 = some (9, k0ca, s0ca) := by kernel_rfl

def qbd9 : IC := zr [zv 2 zf]
def qbhv : IC := zr [zm 5 0, zv 6 (.bin .eql .no (.t 5) (.c (.str []))), zm 7 6, zw 7 false 8 (.mov (.t 0)), zw 7 false 9 (.idx (.t 8) (zc 0)), zw 7 false 10 (.bin .neq .no (.t 9) (.c (.int .u8 33))), zv 11 (.pick (.t 7) (.c (.bool true)) (.t 10))]
def qbd4 : IC := zr [zv 2 zf]
def qbf6 : IC := zr [zm 13 0, zv 14 (.sls (.t 13) (some (zc 1)) none), zi 15 (.call (.c (.fn 145 [] [])) [((.t 14), .id)]), zm 12 15, zv 16 (.ext (.t 12) 0), zv 17 (.ext (.t 12) 1), zm 3 16, zm 4 17]
def qbhk : IC := .drw [zp (zm 18 4), zp (zv 19 (.bin .eql .no (.t 18) (zc 0))), zp (zm 20 19), zp (zw 20 true 21 (.mov (.t 3))), (⟨some (20, true), some 22, .call (.c (.fn 127 [] [])) [((.t 21), .id)]⟩, []), zp (zw 20 true 23 (.mov (.t 0))), zp (zw 20 true 24 (.sls (.t 23) (some (zc 1)) none)), zp (zw 20 true 25 (.bin .eql .no (.t 22) (.t 24))), zp (zv 26 (.pick (.t 20) (.t 25) (.c (.bool false)))), zp (zm 2 26)]
def k0g : IC := (.seq qbd9 (.seq (.seq qbhv (.cond (.t 11) (.seq qbd4 .ret) .skip)) (.seq qbf6 (.seq qbhk .ret))))
@[go_sem] def s0g : List (RV × Co) := [(.t 2, .id)]
theorem c0g : cFun Try.prog 133 = some (27, k0g, s0g) := by kernel_rfl

def qbc3 : IC := zr [zv 4 zf]
def qbin : IC := zr [zm 5 0, zm 6 1, zi 7 (.call (.c (.fn 147 [] [])) [((.t 5), .id), ((.t 6), .id)]), zm 4 7]
def k0k : IC := (.seq qbc3 (.seq qbin .ret))
@[go_sem] def s0k : List (RV × Co) := [(.t 4, .id)]
theorem c0k : cFun Try.prog 135 = some (8, k0k, s0k) := by kernel_rfl

def qben : IC := zr [zv 2 (.mov (zc 0)), zv 3 (.mov (zc 0))]
def qbfg : IC := zr [zm 8 0, zv 9 (.len true (.t 8)), zv 10 (.mov (zc 0))]
def qbhl : IC := zr [zv 11 (.bin .lss .no (.t 10) (.t 9))]
def qbdj : IC := zr [zm 12 10, zm 4 12]
def qbgn : IC := zr [zm 13 0, zm 14 4, zv 15 (.idx (.t 13) (.t 14)), zv 16 (.bin .lss .no (.t 15) (.c (.int .u8 48))), zm 17 16, zw 17 false 18 (.mov (.t 0)), zw 17 false 19 (.mov (.t 4)), zw 17 false 20 (.idx (.t 18) (.t 19)), zw 17 false 21 (.bin .gtr .no (.t 20) (.c (.int .u8 57))), zv 22 (.pick (.t 17) (.c (.bool true)) (.t 21))]
def qbek : IC := zr [zv 2 (.mov (zc 0)), zv 3 (.mov (zc 5))]
def qbf2 : IC := zr [zv 23 (.bin .add .no (.t 10) (zc 1)), zm 10 23]
def qbej : IC := (.seq qbhl (.seq (.cond (.t 11) .skip (.exit 0)) (.seq (.block 1 (.seq qbdj (.seq qbgn (.cond (.t 22) (.seq qbek .ret) .skip)))) qbf2)))
def qbep : IC := zr [zm 24 0, zv 25 (.bin .eql .no (.t 24) (.c (.str [])))]
def q6q : IC := zr [zv 2 (.mov (zc 0)), zv 3 (.mov (zc 5))]
def q8q : IC := zr [zv 5 (.mov (zc 0)), zv 6 (.mov (zc 0))]
def q2b : IC := zr [zm 26 0, zm 27 6, zv 28 (.idx (.t 26) (.t 27)), zv 29 (.bin .sub .no (.t 28) (.c (.int .u8 48))), zv 30 (.cvi .i64 (.t 29)), zm 7 30]
def q9y : IC := zr [zm 31 5, zm 32 7, zv 33 (.bin .sub .no (zc 9223372036854775807) (.t 32)), zv 34 (.bin .quo .no (.t 33) (zc 10)), zv 35 (.bin .gtr .no (.t 31) (.t 34))]
def qbbi : IC := zr [zv 2 (.mov (zc 0)), zv 3 (.mov (zc 4))]
def qbaw : IC := zr [zm 36 5, zv 37 (.bin .mul .no (zc 10) (.t 36)), zm 38 7, zv 39 (.bin .add .no (.t 37) (.t 38)), zm 5 39]
def q25 : IC := zr [zm 40 6, zv 41 (.bin .add .no (.t 40) (zc 1)), zm 6 41]
def qbbu : IC := zr [zm 42 6, zm 43 0, zv 44 (.len true (.t 43)), zv 45 (.bin .lss .no (.t 42) (.t 44))]
def qbbs : IC := zr [zm 46 5, zm 2 46, zv 3 (.mov (zc 0))]
def k0m : IC := (.seq qben (.scope (.seq (.seq qbfg (.block 0 (.loop qbej))) (.seq (.seq qbep (.cond (.t 25) (.seq q6q .ret) .skip)) (.seq q8q (.seq (.label 0) (.seq q2b (.seq (.seq q9y (.cond (.t 35) (.seq qbbi .ret) .skip)) (.seq qbaw (.seq (.seq q25 (.seq qbbu (.cond (.t 45) (.goto 0) .skip))) (.seq qbbs .ret)))))))))))
@[go_sem] def s0m : List (RV × Co) := [(.t 2, .id), (.t 3, .id)]
theorem c0m : cFun Try.prog 136 = some (47, k0m, s0m) := by kernel_rfl

def qbh4 : IC := zr [zv 2 (.mov (.c (.str [])))]
def qbdh : IC := zr [zm 6 0, zv 7 (.cvi .u64 (.t 6)), zm 3 7]
def qbdi : IC := zr [zm 8 0, zv 9 (.bin .lss .no (.t 8) (zc 0))]
def qbdq : IC := zr [zm 10 3, zv 11 (.un .neg (.t 10)), zm 3 11]
def qbez : IC := zr [zi 4 (.alo [(.int .u8 0), (.int .u8 0), (.int .u8 0), (.int .u8 0), (.int .u8 0), (.int .u8 0), (.int .u8 0), (.int .u8 0), (.int .u8 0), (.int .u8 0), (.int .u8 0), (.int .u8 0), (.int .u8 0), (.int .u8 0), (.int .u8 0), (.int .u8 0), (.int .u8 0), (.int .u8 0), (.int .u8 0), (.int .u8 0)])]
def qbf7 : IC := zr [zv 5 (.mov (zc 20))]
def qbew : IC := zr [zm 12 5, zv 13 (.bin .sub .no (.t 12) (zc 1)), zm 5 13]
def qbgb : IC := zr [zm 14 5, zm 15 3, zv 16 (.bin .rem .no (.t 15) (.c (.int .u64 10))), zv 17 (.bin .add .no (.c (.int .u64 48)) (.t 16)), zv 18 (.cvi .u8 (.t 17)), zv 19 (.aad 1 20 (.t 4) (.t 14)), zn (.st 1 .id (.t 19) (.t 18))]
def qbio : IC := zr [zm 20 3, zv 21 (.bin .quo .no (.t 20) (.c (.int .u64 10))), zm 3 21]
def q47 : IC := zr [zm 22 3, zv 23 (.bin .eql .no (.t 22) (.c (.int .u64 0)))]
def qbf1 : IC := (.block 1 (.seq qbew (.seq qbgb (.seq qbio (.seq q47 (.cond (.t 23) (.exit 0) .skip))))))
def q98 : IC := zr [zm 24 0, zv 25 (.bin .lss .no (.t 24) (zc 0))]
def q96 : IC := zr [zm 26 5, zv 27 (.sla 20 (.t 4) (.t 26)), zv 28 (.cbs (.t 27)), zv 29 (.bin .add .no (.c (.str [45])) (.t 28)), zm 2 29]
def q2h : IC := zr [zm 30 5, zv 31 (.sla 20 (.t 4) (.t 30)), zv 32 (.cbs (.t 31)), zm 2 32]
def k0z : IC := (.seq qbh4 (.seq qbdh (.seq (.seq qbdi (.cond (.t 9) qbdq .skip)) (.seq qbez (.seq qbf7 (.seq (.block 0 (.loop qbf1)) (.seq (.seq q98 (.cond (.t 25) (.seq q96 .ret) .skip)) (.seq q2h .ret))))))))
@[go_sem] def s0z : List (RV × Co) := [(.t 2, .id)]
theorem c0z : cFun Try.prog 137 = some (33, k0z, s0z) := by kernel_rfl

def qbfa : IC := zr [zv 2 zf]
def qbfc : IC := zr [zm 3 0, zv 4 (.bin .geq .no (.t 3) (.c (.int .u8 65))), zm 5 4, zw 5 true 6 (.mov (.t 0)), zw 5 true 7 (.bin .leq .no (.t 6) (.c (.int .u8 90))), zv 8 (.pick (.t 5) (.t 7) (.c (.bool false))), zm 2 8]
def k0q : IC := (.seq qbfa (.seq qbfc .ret))
@[go_sem] def s0q : List (RV × Co) := [(.t 2, .id)]
theorem c0q : cFun Try.prog 141 = some (9, k0q, s0q) := by kernel_rfl

def qbi1 : IC := zr [zv 2 zf]
def qbet : IC := zr [zv 3 (.mov (zc 1))]
def qbi9 : IC := zr [zm 4 3, zm 5 0, zv 6 (.len true (.t 5)), zv 7 (.bin .lss .no (.t 4) (.t 6))]
def qbh1 : IC := zr [zm 10 0, zm 11 3, zv 12 (.idx (.t 10) (.t 11)), zi 13 (.call (.c (.fn 152 [] [])) [((.t 12), .id)]), zv 14 (.un .not (.t 13))]
def qbdr : IC := zr [zv 2 zf]
def qbhp : IC := zr [zm 8 3, zv 9 (.bin .add .no (.t 8) (zc 1)), zm 3 9]
def qbhu : IC := (.seq (.seq qbi9 (.cond (.t 7) .skip (.exit 0))) (.seq (.block 1 (.seq qbh1 (.cond (.t 14) (.seq qbdr .ret) .skip))) qbhp))
def qbd5 : IC := zr [zv 2 (.mov (.c (.bool true)))]
def k0u : IC := (.seq qbi1 (.seq (.seq qbet (.block 0 (.loop qbhu))) (.seq qbd5 .ret)))
@[go_sem] def s0u : List (RV × Co) := [(.t 2, .id)]
theorem c0u : cFun Try.prog 142 = some (15, k0u, s0u) := by kernel_rfl

def qbiv : IC := zr [zv 2 (.mov (.c (.int .u64 0)))]
def qbey : IC := zr [zm 3 0, zv 4 (.bin .lss .no (.t 3) (zc 0))]
def qbcz : IC := zr [zm 5 0, zv 6 (.cvi .u64 (.t 5)), zv 7 (.un .neg (.t 6)), zm 2 7]
def qber : IC := zr [zm 8 0, zv 9 (.cvi .u64 (.t 8)), zm 2 9]
def k0x : IC := (.seq qbiv (.seq (.seq qbey (.cond (.t 4) (.seq qbcz .ret) .skip)) (.seq qber .ret)))
@[go_sem] def s0x : List (RV × Co) := [(.t 2, .id)]
theorem c0x : cFun Try.prog 143 = some (10, k0x, s0x) := by kernel_rfl

def qba3 : IC := zr [zv 2 (.mov (.c (.str [])))]
def q8c : IC := zr [zm 4 0, zv 5 (.bin .lss .no (.t 4) (zc 0))]
def qbby : IC := zr [zv 2 (.mov (.c (.str [])))]
def q7c : IC := zr [zm 6 0, zv 7 (.bin .rem .no (.t 6) (zc 26)), zv 8 (.bin .add .no (zc 97) (.t 7)), zv 9 (.cvi .u8 (.t 8)), zv 10 (.bsl 1 [((.t 9), .id)]), zv 11 (.cbs (.t 10)), zm 3 11]
def qbce : IC := zr [zm 12 0, zv 13 (.bin .lss .no (.t 12) (zc 26))]
def q3r : IC := zr [zm 14 3, zm 2 14]
def q4a : IC := zr [zm 15 3, zm 16 0, zv 17 (.bin .quo .no (.t 16) (zc 26)), zi 18 (.call (.c (.fn 137 [] [])) [((.t 17), .id)]), zv 19 (.bin .add .no (.t 15) (.t 18)), zm 2 19]
def k0ba : IC := (.seq qba3 (.seq (.seq q8c (.cond (.t 5) (.seq qbby .ret) .skip)) (.seq q7c (.seq (.seq qbce (.cond (.t 13) (.seq q3r .ret) .skip)) (.seq q4a .ret)))))
@[go_sem] def s0ba : List (RV × Co) := [(.t 2, .id)]
theorem c0ba : cFun Try.prog 144 = some (20, k0ba, s0ba) := by kernel_rfl

def qbeb : IC := zr [zv 2 (.mov (zc 0)), zv 3 (.mov (zc 0))]
def qbd3 : IC := zr [zm 8 0, zv 9 (.bin .eql .no (.t 8) (.c (.str [])))]
def qbg4 : IC := zr [zv 2 (.mov (zc 0)), zv 3 (.mov (zc 5))]
def qbe4 : IC := zr [zv 4 (.mov (zc 0))]
def qbhi : IC := zr [zm 10 4, zm 11 0, zv 12 (.len true (.t 11)), zv 13 (.bin .lss .no (.t 10) (.t 12))]
def qbdm : IC := zr [zm 16 0, zm 17 4, zv 18 (.idx (.t 16) (.t 17)), zv 19 (.bin .lss .no (.t 18) (.c (.int .u8 48))), zm 20 19, zw 20 false 21 (.mov (.t 0)), zw 20 false 22 (.mov (.t 4)), zw 20 false 23 (.idx (.t 21) (.t 22)), zw 20 false 24 (.bin .gtr .no (.t 23) (.c (.int .u8 57))), zv 25 (.pick (.t 20) (.c (.bool true)) (.t 24))]
def qbia : IC := zr [zv 2 (.mov (zc 0)), zv 3 (.mov (zc 5))]
def qbdk : IC := zr [zm 14 4, zv 15 (.bin .add .no (.t 14) (zc 1)), zm 4 15]
def qbed : IC := (.seq (.seq qbhi (.cond (.t 13) .skip (.exit 0))) (.seq (.block 1 (.seq qbdm (.cond (.t 25) (.seq qbia .ret) .skip))) qbdk))
def q18 : IC := zr [zv 5 (.mov (zc 0))]
def q32 : IC := zr [zv 6 (.mov (zc 0))]
def q3t : IC := zr [zm 26 6, zm 27 0, zv 28 (.len true (.t 27)), zv 29 (.bin .lss .no (.t 26) (.t 28))]
def qbam : IC := zr [zm 32 0, zm 33 6, zv 34 (.idx (.t 32) (.t 33)), zv 35 (.bin .sub .no (.t 34) (.c (.int .u8 48))), zv 36 (.cvi .i64 (.t 35)), zm 7 36]
def qbao : IC := zr [zm 37 5, zm 38 7, zv 39 (.bin .sub .no (zc 9223372036854775807) (.t 38)), zv 40 (.bin .quo .no (.t 39) (zc 10)), zv 41 (.bin .gtr .no (.t 37) (.t 40))]
def qbbp : IC := zr [zv 2 (.mov (zc 0)), zv 3 (.mov (zc 4))]
def q6t : IC := zr [zm 42 5, zv 43 (.bin .mul .no (zc 10) (.t 42)), zm 44 7, zv 45 (.bin .add .no (.t 43) (.t 44)), zm 5 45]
def q1y : IC := zr [zm 30 6, zv 31 (.bin .add .no (.t 30) (zc 1)), zm 6 31]
def q5h : IC := (.seq (.seq q3t (.cond (.t 29) .skip (.exit 2))) (.seq (.block 3 (.seq qbam (.seq (.seq qbao (.cond (.t 41) (.seq qbbp .ret) .skip)) q6t))) q1y))
def q51 : IC := zr [zm 46 5, zm 2 46, zv 3 (.mov (zc 0))]
def k0l : IC := (.seq qbeb (.seq (.seq qbd3 (.cond (.t 9) (.seq qbg4 .ret) .skip)) (.seq (.seq qbe4 (.block 0 (.loop qbed))) (.seq q18 (.seq (.seq q32 (.block 2 (.loop q5h))) (.seq q51 .ret))))))
@[go_sem] def s0l : List (RV × Co) := [(.t 2, .id), (.t 3, .id)]
theorem c0l : cFun Try.prog 145 = some (47, k0l, s0l) := by kernel_rfl

def qbhe : IC := zr [zv 4 zf]
def qbc0 : IC := zr [zm 5 0, zv 6 (.len true (.t 5)), zm 7 1, zv 8 (.len true (.t 7)), zv 9 (.bin .geq .no (.t 6) (.t 8)), zm 10 9, zw 10 true 11 (.mov (.t 0)), zw 10 true 12 (.mov (.t 1)), zw 10 true 13 (.len true (.t 12)), zw 10 true 14 (.sls (.t 11) none (some (.t 13))), zw 10 true 15 (.mov (.t 1)), zw 10 true 16 (.bin .eql .no (.t 14) (.t 15)), zv 17 (.pick (.t 10) (.t 16) (.c (.bool false))), zm 4 17]
def k0j : IC := (.seq qbhe (.seq qbc0 .ret))
@[go_sem] def s0j : List (RV × Co) := [(.t 4, .id)]
theorem c0j : cFun Try.prog 147 = some (18, k0j, s0j) := by kernel_rfl

def qbha : IC := zr [zv 2 zf]
def qbff : IC := zr [zm 3 0, zi 4 (.call (.c (.fn 155 [] [])) [((.t 3), .id)]), zm 5 4, zw 5 false 6 (.mov (.t 0)), ⟨some (5, false), some 7, .call (.c (.fn 141 [] [])) [((.t 6), .id)]⟩, zv 8 (.pick (.t 5) (.c (.bool true)) (.t 7)), zm 9 8, zw 9 false 10 (.mov (.t 0)), ⟨some (9, false), some 11, .call (.c (.fn 156 [] [])) [((.t 10), .id)]⟩, zv 12 (.pick (.t 9) (.c (.bool true)) (.t 11)), zm 13 12, zw 13 false 14 (.mov (.t 0)), zw 13 false 15 (.bin .eql .no (.t 14) (.c (.int .u8 39))), zv 16 (.pick (.t 13) (.c (.bool true)) (.t 15)), zm 2 16]
def k0s : IC := (.seq qbha (.seq qbff .ret))
@[go_sem] def s0s : List (RV × Co) := [(.t 2, .id)]
theorem c0s : cFun Try.prog 152 = some (17, k0s, s0s) := by kernel_rfl

def qbcy : IC := zr [zv 2 zf]
def qbea : IC := zr [zm 3 0, zv 4 (.bin .geq .no (.t 3) (.c (.int .u8 97))), zm 5 4, zw 5 true 6 (.mov (.t 0)), zw 5 true 7 (.bin .leq .no (.t 6) (.c (.int .u8 122))), zv 8 (.pick (.t 5) (.t 7) (.c (.bool false))), zm 9 8, zw 9 false 10 (.mov (.t 0)), zw 9 false 11 (.bin .eql .no (.t 10) (.c (.int .u8 95))), zv 12 (.pick (.t 9) (.c (.bool true)) (.t 11)), zm 2 12]
def k0o : IC := (.seq qbcy (.seq qbea .ret))
@[go_sem] def s0o : List (RV × Co) := [(.t 2, .id)]
theorem c0o : cFun Try.prog 155 = some (13, k0o, s0o) := by kernel_rfl

def qbe7 : IC := zr [zv 2 zf]
def qbd2 : IC := zr [zm 3 0, zv 4 (.bin .geq .no (.t 3) (.c (.int .u8 48))), zm 5 4, zw 5 true 6 (.mov (.t 0)), zw 5 true 7 (.bin .leq .no (.t 6) (.c (.int .u8 57))), zv 8 (.pick (.t 5) (.t 7) (.c (.bool false))), zm 2 8]
def k0r : IC := (.seq qbe7 (.seq qbd2 .ret))
@[go_sem] def s0r : List (RV × Co) := [(.t 2, .id)]
theorem c0r : cFun Try.prog 156 = some (9, k0r, s0r) := by kernel_rfl

end Go.Proofs.Ytfpobiheiloamaa
